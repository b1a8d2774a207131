/- RegsMatches: whatever the input, the law returns true, and its arguments read as they did. No condition. -/
import Derived.Test.YtabhplelhjcdiaaRnRow
import Derived.Test.YtabhplelhjcdiaaRn3
namespace Go.Proofs.Ytabhplelhjcdiaa.Regs
open Go.Rx Go.ChangeShapes Go.WideShapes Go.ChangeAt Go.RowKit Go.WideElems
set_option linter.unusedVariables false
set_option linter.unusedSimpArgs false

noncomputable def FM : Nat → Option AF := tabF [(6, A6), (8, A8), (9, A9), (22, A22), (24, A24), (25, A25), (51, A51), (52, A52), (55, A55), (60, A60), (74, A74), (75, A75), (76, A76), (77, A77), (91, A91), (92, A92), (102, A102), (113, A113), (118, A118), (128, A128), (21, A21), (26, A26), (27, A27), (28, A28), (48, A48), (49, A49), (50, A50), (56, A56), (78, A78), (79, A79), (80, A80)]
noncomputable def MM : Mach := ⟨FM, trueO [23]⟩
theorem tableM : TableOk Try.prog FM := by
  refine tabF_ok fun p hp => ?_
  simp only [List.mem_cons, List.not_mem_nil, or_false] at hp
  rcases hp with rfl | rfl | rfl | rfl | rfl | rfl | rfl | rfl | rfl | rfl | rfl | rfl | rfl | rfl | rfl | rfl | rfl | rfl | rfl | rfl | rfl | rfl | rfl | rfl | rfl | rfl | rfl | rfl | rfl | rfl | rfl
  all_goals kernel_rfl
theorem lawM : LawF MM where
  mono := mono_true
  bs := ⟨rfl, rfl, rfl, rfl, rfl, rfl, rfl, rfl⟩
  o52 := rfl
  f52 := rfl
  o75 := rfl
  f75 := rfl
  o76 := rfl
  f76 := rfl
  o77 := rfl
  f77 := rfl
  o91 := rfl
  f91 := rfl
  o92 := rfl
  f92 := rfl
  o22 := rfl
  f22 := rfl
  o51 := rfl
  f51 := rfl
  o55 := rfl
  f55 := rfl
  o60 := rfl
  f60 := rfl
  o74 := rfl
  f74 := rfl
  o23 := rfl
  o24 := rfl
  f24 := rfl
  o25 := rfl
  f25 := rfl
theorem refF : RefF MM where
  law := lawM
  ends := ⟨mono_true, rfl, rfl, rfl, rfl, rfl, rfl, rfl, rfl⟩
  o21 := rfl
  f21 := rfl
  o48 := rfl
  f48 := rfl
  o49 := rfl
  f49 := rfl
  o50 := rfl
  f50 := rfl
  o27 := rfl
  f27 := rfl
  o26 := rfl
  f26 := rfl
  o28 := rfl
  f28 := rfl

theorem walk6 {v0 v1 : Value} {W : World} {x0 : RegD} {x1 : List UInt8} (h0 : RdV Try.prog W (aggV regRep) v0 x0) (h1 : RdV Try.prog W (oneV strR) v1 x1) :
    Calls Try.prog 6 #[v0, v1] W (LawEnd W) := by
  refine law2 (M := MM) deep follows tableM alive23 h0 h1 (aggV_mono regRep_mono) ?_
  rintro H v0 v1 h1n ⟨cs, rfl, hr⟩ ⟨e1, hl⟩
  obtain rfl := (List.cons.inj e1).1
  exact matches6_ok refF rfl rfl h1n hr hl (fun _ => rfl)

set_option maxRecDepth 100000 in
theorem contract6 (Hd : Type) (enc : TypeId × Value → Hd) (W : World) (base : Nat) (args : Array Value) (ds gs : List (DataW Hd)) (before : List MemPlace)
    (hval : ∀ (j : Nat) t v, Try.f6.params[j]? = some t → args[j]? = some v → Value.okWide Try.prog W .any base t v)
    (hW : DataW.Whole enc Try.prog Try.f6.params.toList Rows.regsMatchesSpec.vars false W args.toList ds gs before) :
    Calls Try.prog 6 args W fun e W' => ∃ v, e = .returned v ∧ Rows.regsMatchesSpec.post enc Try.prog Try.f6 false true false false W args v W' := by
  have hW' := hW
  obtain ⟨p, q, hA0, hV, rfl, hfz, hnd⟩ := hW
  have hA : DataW.TrodAll enc Try.prog W 0 (fun _ => true) true Try.f6.params.toList args.toList ds p := hA0
  rw [Try.params6] at hA hval
  obtain ⟨v0, v1, d0, d1, p0, p1, hargs, rfl, rfl, h0, h1⟩ := trodAll_two hA
  obtain ⟨rfl, rfl⟩ := trodVars_none hV
  obtain rfl : args = #[v0, v1] := by cases args; simp_all
  obtain ⟨x0, _, r0⟩ := arg_agg (P := Try.prog) readsReg (by rw [Try.underlying48]; rfl) ⟨base, hval 0 48 v0 rfl rfl⟩ h0
  obtain ⟨x1, _, r1⟩ := arg_one (P := Try.prog) (reads_string Try.underlying9) (one_cell (t := 9) (by rw [Try.underlying9]; rfl) (by rw [Try.underlying9]; simp) ⟨base, hval 1 9 v1 rfl rfl⟩) h1
  refine (walk6 r0 r1).mono fun e W' he => ?_
  exact law_post (P := Try.prog) (tb := 4) (by kernel_rfl) (by kernel_rfl) rfl (by kernel_rfl) Try.underlying4 hW' ⟨rfl, rfl, rfl⟩ he

set_option maxRecDepth 100000 in
theorem lifted6 (os : Os) (started : os.Started) (Hd : Type) (enc : TypeId × Value → Hd) :
    ReturnsInHanded {} Try.checked os 6 .any (Rows.regsMatchesSpec.pre6 enc Try.prog Try.f6 Rows.regsMatchesRow.domain false) (Rows.regsMatchesSpec.post enc Try.prog Try.f6 false true false false) := by
  refine returnsInHanded_of_change (C := Try.checked) own started (by kernel_rfl) Try.func6
    (ChangeSpec.witness6 (enc := enc) (C := Try.checked) false ⟨#[], #[.agg #[.int .i64 0, .int .u64 0, .int .u64 0, .int .u64 0, .int .u64 0, .slice none 0 0], .string .empty], []⟩ 8 (by kernel_rfl) (by kernel_rfl) (by kernel_rfl) (by kernel_rfl)) ?_
  intro W base args ds gs before hval hW _ _
  exact contract6 Hd enc W base args ds gs before hval hW

theorem matches_ : Rows.RegsMatchesSaid :=
  OpenClaim.holds_of_wide 6 Try.f6 rfl rfl rfl rfl rfl rfl rfl ⟨rfl, rfl, rfl, rfl, rfl⟩ rfl rfl rfl rfl rfl (by kernel_rfl) Try.func6 (by kernel_rfl)
    (of_decide_eq_true (by kernel_rfl)) (by unfold Func.isWrapper; first | (rw [if_pos (by decide +kernel)]; kernel_rfl) | (rw [if_neg (by decide +kernel)]; exact ⟨rfl, rfl⟩))
    (fun os started H enc _ => lifted6 os started H enc)
#print axioms matches_
end Go.Proofs.Ytabhplelhjcdiaa.Regs
