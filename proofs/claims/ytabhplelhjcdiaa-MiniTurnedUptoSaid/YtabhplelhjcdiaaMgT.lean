/- MiniTurned: whatever the input (of bulk at most 1048576), the law returns true, and its arguments read as they did. -/
import Derived.Test.YtabhplelhjcdiaaMgU
import Derived.Test.YtabhplelhjcdiaaMgF
namespace Go.Proofs.Ytabhplelhjcdiaa.Mini
open Go.Rx Go.ChangeShapes Go.WideShapes Go.ChangeAt Go.RowKit Go.WideElems
set_option linter.unusedVariables false
set_option linter.unusedSimpArgs false

theorem walk4 {v0 v1 : Value} {W : World} {x0 : Int × List Int × List (List Int) × List Int × Unit} {x1 : List Int} (h0 : RdV Try.prog W (aggV dfaR) v0 x0) (h1 : RdV Try.prog W (oneV (slR 3 (intR .i64))) v1 x1) (hb : dfaB x0 ≤ 1048576) :
    Calls Try.prog 4 #[v0, v1] W (LawEnd W) := by
  refine law2 (M := M) deep follows tableOk oracleOk h0 h1 (aggV_mono dfaR_mono) ?_
  intro H v0 v1 hn r0 r1
  obtain ⟨vn, vr, us, hd⟩ := dfaV_of hn r0 hb
  obtain ⟨ht, _⟩ := slR_sl hn r1
  refine turned_ok mono_true rfl rfl rfl rfl rfl rfl rfl rfl rfl rfl rfl rfl rfl (fun a b c d => least_ok mono_true rfl rfl rfl rfl rfl rfl rfl rfl rfl rfl rfl rfl rfl rfl rfl rfl rfl rfl rfl rfl rfl rfl a b c d) (fun a b c d => sameDfa_ok mono_true rfl rfl rfl rfl a b c d) hn hd ht fun _ => rfl

set_option maxRecDepth 100000 in
theorem contract4 (Hd : Type) (enc : TypeId × Value → Hd) (W : World) (base : Nat) (args : Array Value) (ds gs : List (DataW Hd)) (before : List MemPlace)
    (hval : ∀ (j : Nat) t v, Try.f4.params[j]? = some t → args[j]? = some v → Value.okWide Try.prog W .any base t v)
    (hW : DataW.Whole enc Try.prog Try.f4.params.toList Rows.miniTurnedSpec.vars false W args.toList ds gs before) (hk : Rows.uptoSmall Hd (ds ++ gs) = true) :
    Calls Try.prog 4 args W fun e W' => ∃ v, e = .returned v ∧ Rows.miniTurnedSpec.post enc Try.prog Try.f4 false true false false W args v W' := by
  have hW' := hW
  obtain ⟨p, q, hA0, hV, rfl, hfz, hnd⟩ := hW
  have hA : DataW.TrodAll enc Try.prog W 0 (fun _ => true) true Try.f4.params.toList args.toList ds p := hA0
  rw [Try.params4] at hA hval
  obtain ⟨v0, v1, d0, d1, p0, p1, hargs, rfl, rfl, h0, h1⟩ := trodAll_two hA
  obtain ⟨rfl, rfl⟩ := trodVars_none hV
  obtain rfl : args = #[v0, v1] := by cases args; simp_all
  obtain ⟨x0, k0, r0⟩ := arg_agg (P := Try.prog) readsDfa (by rw [Try.underlying34]; rfl) ⟨base, hval 0 34 v0 rfl rfl⟩ h0
  obtain ⟨x1, k1, r1⟩ := arg_one (P := Try.prog) readsInts (one_cell (t := 32) (by rw [Try.underlying32]; rfl) (by rw [Try.underlying32]; simp) ⟨base, hval 1 32 v1 rfl rfl⟩) h1
  refine (walk4 r0 r1 ?_).mono fun e W' he => ?_
  · have hs : Rows.uptoBulkAll ([d0, d1] ++ []) ≤ 1048576 := of_decide_eq_true hk
    rw [ubAll] at hs
    simp only [List.cons_append, List.nil_append, bulkAll] at hs
    omega
  exact law_post (P := Try.prog) (tb := 4) (by kernel_rfl) (by kernel_rfl) rfl (by kernel_rfl) Try.underlying4 hW' ⟨rfl, rfl, rfl⟩ he

set_option maxRecDepth 100000 in
theorem lifted4 (os : Os) (started : os.Started) (Hd : Type) (enc : TypeId × Value → Hd) (F : Stop.Interp) :
    ReturnsInHanded {} Try.checked os 4 .any ((Rows.OpenSpec.upto Rows.miniTurnedSpec).pre6 enc Try.prog Try.f4 Rows.miniTurnedUptoRow.domain false) (((Rows.OpenSpec.upto Rows.miniTurnedSpec).at F).post enc Try.prog Try.f4 false true false false) := by
  refine returnsInHanded_of_cond (C := Try.checked) (s := Rows.OpenSpec.upto Rows.miniTurnedSpec) (k := Rows.uptoSmall) rfl own started (by kernel_rfl) Try.func4
    (OpenSpec.witness (enc := enc) (C := Try.checked) (s := Rows.OpenSpec.upto Rows.miniTurnedSpec) (k := Rows.uptoSmall) rfl false ⟨#[], #[.agg ((.int .i64 0 :: (List.replicate 256 (.int .u8 0) ++ [.slice none 0 0, .slice none 0 0])).toArray), .slice none 0 0], []⟩ 8 (by kernel_rfl) (by kernel_rfl) (by kernel_rfl)
      (x := ([.agg [.lit (.int .i64 0), .agg (List.replicate 256 (.lit (.int .u8 0))), .nil, .nil], .nil], [], [])) (by kernel_rfl) rfl (by kernel_rfl)) ?_
  intro W base args ds gs before hval hW _ hk _
  exact contract4 Hd enc W base args ds gs before hval hW hk

theorem turned : Rows.MiniTurnedUptoSaid :=
  OpenClaim.holds_of_cond 4 Try.f4 rfl rfl rfl rfl rfl rfl rfl ⟨rfl, rfl, rfl, rfl, rfl⟩ rfl rfl rfl rfl rfl (by kernel_rfl) Try.func4 (by kernel_rfl)
    (of_decide_eq_true (by kernel_rfl)) (by unfold Func.isWrapper; first | (rw [if_pos (by decide +kernel)]; kernel_rfl) | (rw [if_neg (by decide +kernel)]; exact ⟨rfl, rfl⟩))
    (fun os started H enc _ F => lifted4 os started H enc F)
end Go.Proofs.Ytabhplelhjcdiaa.Mini
