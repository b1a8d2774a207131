/- MiniMore: whatever the input (of bulk at most 1048576), the law returns true, and its arguments read as they did. -/
import Derived.Test.YtabhplelhjcdiaaMgU
import Derived.Test.YtabhplelhjcdiaaMgM
namespace Go.Proofs.Ytabhplelhjcdiaa.Mini
open Go.Rx Go.ChangeShapes Go.WideShapes Go.ChangeAt Go.RowKit Go.WideElems
set_option linter.unusedVariables false
set_option linter.unusedSimpArgs false

theorem walk5 {v0 v1 v2 : Value} {W : World} {x0 : Int × List Int × List (List Int) × List Int × Unit} {x1 : List Int} {x2 : Int} (h0 : RdV Try.prog W (aggV dfaR) v0 x0) (h1 : RdV Try.prog W (oneV (slR 3 (intR .i64))) v1 x1) (h2 : RdV Try.prog W (oneV (intR .i64)) v2 x2) (hb : dfaB x0 ≤ 1048576) :
    Calls Try.prog 5 #[v0, v1, v2] W (LawEnd W) := by
  refine law3 (M := M) deep follows tableOk oracleOk h0 h1 h2 (aggV_mono dfaR_mono) (oneV_mono (slR_mono (intR_mono _))) ?_
  intro H v0 v1 v2 hn r0 r1 r2
  obtain ⟨vn, vr, us, hd⟩ := dfaV_of hn r0 hb
  obtain ⟨ht, _⟩ := slR_sl hn r1
  obtain ⟨e2, _, _⟩ := r2
  obtain rfl := (List.cons.inj e2).1
  refine more_ok mono_true rfl rfl rfl rfl rfl rfl rfl rfl rfl rfl rfl rfl rfl (fun a b c d => least_ok mono_true rfl rfl rfl rfl rfl rfl rfl rfl rfl rfl rfl rfl rfl rfl rfl rfl rfl rfl rfl rfl rfl rfl a b c d) (fun a b c d => sameDfa_ok mono_true rfl rfl rfl rfl a b c d) hn hd ht fun _ => rfl

set_option maxRecDepth 100000 in
theorem contract5 (Hd : Type) (enc : TypeId × Value → Hd) (W : World) (base : Nat) (args : Array Value) (ds gs : List (DataW Hd)) (before : List MemPlace)
    (hval : ∀ (j : Nat) t v, Try.f5.params[j]? = some t → args[j]? = some v → Value.okWide Try.prog W .any base t v)
    (hW : DataW.Whole enc Try.prog Try.f5.params.toList Rows.miniMoreSpec.vars false W args.toList ds gs before) (hk : Rows.uptoSmall Hd (ds ++ gs) = true) :
    Calls Try.prog 5 args W fun e W' => ∃ v, e = .returned v ∧ Rows.miniMoreSpec.post enc Try.prog Try.f5 false true false false W args v W' := by
  have hW' := hW
  obtain ⟨p, q, hA0, hV, rfl, hfz, hnd⟩ := hW
  have hA : DataW.TrodAll enc Try.prog W 0 (fun _ => true) true Try.f5.params.toList args.toList ds p := hA0
  rw [Try.params5] at hA hval
  obtain ⟨v0, v1, v2, d0, d1, d2, p0, p1, p2, hargs, rfl, rfl, h0, h1, h2⟩ := trodAll_three hA
  obtain ⟨rfl, rfl⟩ := trodVars_none hV
  obtain rfl : args = #[v0, v1, v2] := by cases args; simp_all
  obtain ⟨x0, k0, r0⟩ := arg_agg (P := Try.prog) readsDfa (by rw [Try.underlying34]; rfl) ⟨base, hval 0 34 v0 rfl rfl⟩ h0
  obtain ⟨x1, k1, r1⟩ := arg_one (P := Try.prog) readsInts (one_cell (t := 32) (by rw [Try.underlying32]; rfl) (by rw [Try.underlying32]; simp) ⟨base, hval 1 32 v1 rfl rfl⟩) h1
  obtain ⟨x2, k2, r2⟩ := arg_one (P := Try.prog) (reads_int Try.underlying3) (one_cell (t := 3) (by rw [Try.underlying3]; rfl) (by rw [Try.underlying3]; simp) ⟨base, hval 2 3 v2 rfl rfl⟩) h2
  refine (walk5 r0 r1 r2 ?_).mono fun e W' he => ?_
  · have hs : Rows.uptoBulkAll ([d0, d1, d2] ++ []) ≤ 1048576 := of_decide_eq_true hk
    rw [ubAll] at hs
    simp only [List.cons_append, List.nil_append, bulkAll] at hs
    omega
  exact law_post (P := Try.prog) (tb := 4) (by kernel_rfl) (by kernel_rfl) rfl (by kernel_rfl) Try.underlying4 hW' ⟨rfl, rfl, rfl⟩ he

set_option maxRecDepth 100000 in
theorem lifted5 (os : Os) (started : os.Started) (Hd : Type) (enc : TypeId × Value → Hd) (F : Stop.Interp) :
    ReturnsInHanded {} Try.checked os 5 .any ((Rows.OpenSpec.upto Rows.miniMoreSpec).pre6 enc Try.prog Try.f5 Rows.miniMoreUptoRow.domain false) (((Rows.OpenSpec.upto Rows.miniMoreSpec).at F).post enc Try.prog Try.f5 false true false false) := by
  refine returnsInHanded_of_cond (C := Try.checked) (s := Rows.OpenSpec.upto Rows.miniMoreSpec) (k := Rows.uptoSmall) rfl own started (by kernel_rfl) Try.func5
    (OpenSpec.witness (enc := enc) (C := Try.checked) (s := Rows.OpenSpec.upto Rows.miniMoreSpec) (k := Rows.uptoSmall) rfl false ⟨#[], #[.agg ((.int .i64 0 :: (List.replicate 256 (.int .u8 0) ++ [.slice none 0 0, .slice none 0 0])).toArray), .slice none 0 0, .int .i64 0], []⟩ 8 (by kernel_rfl) (by kernel_rfl) (by kernel_rfl)
      (x := ([.agg [.lit (.int .i64 0), .agg (List.replicate 256 (.lit (.int .u8 0))), .nil, .nil], .nil, .lit (.int .i64 0)], [], [])) (by kernel_rfl) rfl (by kernel_rfl)) ?_
  intro W base args ds gs before hval hW _ hk _
  exact contract5 Hd enc W base args ds gs before hval hW hk

theorem more : Rows.MiniMoreUptoSaid :=
  OpenClaim.holds_of_cond 5 Try.f5 rfl rfl rfl rfl rfl rfl rfl ⟨rfl, rfl, rfl, rfl, rfl⟩ rfl rfl rfl rfl rfl (by kernel_rfl) Try.func5 (by kernel_rfl)
    (of_decide_eq_true (by kernel_rfl)) (by unfold Func.isWrapper; first | (rw [if_pos (by decide +kernel)]; kernel_rfl) | (rw [if_neg (by decide +kernel)]; exact ⟨rfl, rfl⟩))
    (fun os started H enc _ F => lifted5 os started H enc F)
end Go.Proofs.Ytabhplelhjcdiaa.Mini
