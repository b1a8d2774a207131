/- RegsParts: whatever the input, the law returns true, and its arguments read as they did. No condition. -/
import Derived.Test.YtabhplelhjcdiaaRhRow
import Derived.Test.YtabhplelhjcdiaaRh5
namespace Go.Proofs.Ytabhplelhjcdiaa.Regs
open Go.Rx Go.ChangeShapes Go.WideShapes Go.ChangeAt Go.RowKit Go.WideElems
set_option linter.unusedVariables false
set_option linter.unusedSimpArgs false

theorem walk8 {v0 v1 v2 : Value} {W : World} {x0 x1 : RegD} {x2 : List UInt8} (h0 : RdV Try.prog W (aggV regRep) v0 x0) (h1 : RdV Try.prog W (aggV regRep) v1 x1) (h2 : RdV Try.prog W (oneV strR) v2 x2) :
    Calls Try.prog 8 #[v0, v1, v2] W (LawEnd W) := by
  refine law3 (M := M) deep follows tableOk alive23 h0 h1 h2 (aggV_mono regRep_mono) (aggV_mono regRep_mono) ?_
  rintro H v0 v1 v2 h1n ⟨cr, rfl, hr⟩ ⟨cs, rfl, hs⟩ ⟨e1, hl⟩
  obtain rfl := (List.cons.inj e1).1
  exact parts8_ok lawF rfl rfl h1n hr hs hl (fun _ => rfl)

set_option maxRecDepth 100000 in
theorem contract8 (Hd : Type) (enc : TypeId × Value → Hd) (W : World) (base : Nat) (args : Array Value) (ds gs : List (DataW Hd)) (before : List MemPlace)
    (hval : ∀ (j : Nat) t v, Try.f8.params[j]? = some t → args[j]? = some v → Value.okWide Try.prog W .any base t v)
    (hW : DataW.Whole enc Try.prog Try.f8.params.toList Rows.regsPartsSpec.vars false W args.toList ds gs before) :
    Calls Try.prog 8 args W fun e W' => ∃ v, e = .returned v ∧ Rows.regsPartsSpec.post enc Try.prog Try.f8 false true false false W args v W' := by
  have hW' := hW
  obtain ⟨p, q, hA0, hV, rfl, hfz, hnd⟩ := hW
  have hA : DataW.TrodAll enc Try.prog W 0 (fun _ => true) true Try.f8.params.toList args.toList ds p := hA0
  rw [Try.params8] at hA hval
  obtain ⟨v0, v1, v2, d0, d1, d2, p0, p1, p2, hargs, rfl, rfl, h0, h1, h2⟩ := trodAll_three hA
  obtain ⟨rfl, rfl⟩ := trodVars_none hV
  obtain rfl : args = #[v0, v1, v2] := by cases args; simp_all
  obtain ⟨x0, _, r0⟩ := arg_agg (P := Try.prog) readsReg (by rw [Try.underlying48]; rfl) ⟨base, hval 0 48 v0 rfl rfl⟩ h0
  obtain ⟨x1, _, r1⟩ := arg_agg (P := Try.prog) readsReg (by rw [Try.underlying48]; rfl) ⟨base, hval 1 48 v1 rfl rfl⟩ h1
  obtain ⟨x2, _, r2⟩ := arg_one (P := Try.prog) (reads_string Try.underlying9) (one_cell (t := 9) (by rw [Try.underlying9]; rfl) (by rw [Try.underlying9]; simp) ⟨base, hval 2 9 v2 rfl rfl⟩) h2
  refine (walk8 r0 r1 r2).mono fun e W' he => ?_
  exact law_post (P := Try.prog) (tb := 4) (by kernel_rfl) (by kernel_rfl) rfl (by kernel_rfl) Try.underlying4 hW' ⟨rfl, rfl, rfl⟩ he

set_option maxRecDepth 100000 in
theorem lifted8 (os : Os) (started : os.Started) (Hd : Type) (enc : TypeId × Value → Hd) :
    ReturnsInHanded {} Try.checked os 8 .any (Rows.regsPartsSpec.pre6 enc Try.prog Try.f8 Rows.regsPartsRow.domain false) (Rows.regsPartsSpec.post enc Try.prog Try.f8 false true false false) := by
  refine returnsInHanded_of_change (C := Try.checked) own started (by kernel_rfl) Try.func8
    (ChangeSpec.witness6 (enc := enc) (C := Try.checked) false ⟨#[], #[.agg #[.int .i64 0, .int .u64 0, .int .u64 0, .int .u64 0, .int .u64 0, .slice none 0 0], .agg #[.int .i64 0, .int .u64 0, .int .u64 0, .int .u64 0, .int .u64 0, .slice none 0 0], .string .empty], []⟩ 8 (by kernel_rfl) (by kernel_rfl) (by kernel_rfl) (by kernel_rfl)) ?_
  intro W base args ds gs before hval hW _ _
  exact contract8 Hd enc W base args ds gs before hval hW

theorem parts : Rows.RegsPartsSaid :=
  OpenClaim.holds_of_wide 8 Try.f8 rfl rfl rfl rfl rfl rfl rfl ⟨rfl, rfl, rfl, rfl, rfl⟩ rfl rfl rfl rfl rfl (by kernel_rfl) Try.func8 (by kernel_rfl)
    (of_decide_eq_true (by kernel_rfl)) (by unfold Func.isWrapper; first | (rw [if_pos (by decide +kernel)]; kernel_rfl) | (rw [if_neg (by decide +kernel)]; exact ⟨rfl, rfl⟩))
    (fun os started H enc _ => lifted8 os started H enc)
#print axioms parts
end Go.Proofs.Ytabhplelhjcdiaa.Regs
