/- EditsKeeps: whatever the input, the law returns true, and its arguments read as they did. No condition. -/
import Derived.Test.YtabhplelhjcdiaaRows
import Derived.ProofKit
import Derived.Test.YtabhplelhjcdiaaE4
namespace Go.Proofs.Ytabhplelhjcdiaa.EditsKeeps
open Go.Rx Go.ChangeShapes Go.WideShapes Go.ChangeAt Go.RowKit Go.WideElems
set_option linter.unusedVariables false
set_option linter.unusedSimpArgs false

theorem own : ownKnob Try.prog.godebug = none := by kernel_rfl
theorem deep : 50 ≤ Try.prog.depth := by decide +kernel
theorem follows : Try.prog.follows .mixedOrders = true := by kernel_rfl
noncomputable def F : Nat → Option AF := tabF [(3, A3), (12, A12), (13, A13), (14, A14), (37, A37), (38, A38), (39, A39)]
noncomputable def M : Mach := ⟨F, trueO [13]⟩
theorem tableOk : TableOk Try.prog F := by
  refine tabF_ok fun p hp => ?_
  simp only [List.mem_cons, List.not_mem_nil, or_false] at hp
  rcases hp with rfl | rfl | rfl | rfl | rfl | rfl | rfl
  all_goals kernel_rfl
theorem run13 : isTrueR ((evN F (trueO []) 60).f 13 [] emptyH) = true := by kernel_rfl
theorem oracleOk : OracleOk Try.prog M.O := by
  show OracleOk Try.prog (trueO [13])
  refine trueO_ok fun p hp => ?_
  obtain rfl : p = 13 := by simpa using hp
  exact FS1.closed (machine_sound deep follows tableOk (fun _ _ h => by cases h) 60) run13

theorem readsEdit : Reads Try.prog 23 3 (pairR 1 (intR .i64) (pairR 1 (intR .i64) (pairR 1 strR nilR))) (fun x => 1 + 1 + (x.2.2.1.length + 1) + 1) :=
  reads_struct3 Try.underlying23 rfl rfl rfl (by kernel_rfl) (by kernel_rfl) (by kernel_rfl) (reads_int Try.underlying3) (reads_int Try.underlying3) (reads_string Try.underlying9) (by kernel_rfl) (intR_mono _) (intR_mono _) strR_mono

theorem walk {v0 v1 : Value} {W : World} {x0 : List UInt8} {x1 : Int × Int × List UInt8 × Unit} (h0 : RdV Try.prog W (oneV strR) v0 x0) (h1 : RdV Try.prog W (aggV (pairR 1 (intR .i64) (pairR 1 (intR .i64) (pairR 1 strR nilR)))) v1 x1) :
    Calls Try.prog 3 #[v0, v1] W (LawEnd W) := by
  refine law2 (M := M) deep follows tableOk oracleOk h0 h1 (oneV_mono strR_mono) ?_
  rintro H v0 v1 _ ⟨e0, hl⟩ ⟨cs, rfl, c0, r0, rfl, ⟨rfl, _, _⟩, c1, r1, rfl, ⟨rfl, _, _⟩, c2, r2, rfl, ⟨rfl, _⟩, rfl⟩
  obtain rfl := (List.cons.inj e0).1
  exact keeps_ok mono_true rfl rfl rfl rfl rfl rfl rfl rfl rfl rfl (fun h K hk => WF_true rfl hk) rfl rfl hl (fun _ _ => rfl)

set_option maxRecDepth 100000 in
theorem contract (Hd : Type) (enc : TypeId × Value → Hd) (W : World) (base : Nat) (args : Array Value) (ds gs : List (DataW Hd)) (before : List MemPlace)
    (hval : ∀ (j : Nat) t v, Try.f3.params[j]? = some t → args[j]? = some v → Value.okWide Try.prog W .any base t v)
    (hW : DataW.Whole enc Try.prog Try.f3.params.toList Rows.editsKeepsSpec.vars false W args.toList ds gs before) :
    Calls Try.prog 3 args W fun e W' => ∃ v, e = .returned v ∧ Rows.editsKeepsSpec.post enc Try.prog Try.f3 false true false false W args v W' := by
  have hW' := hW
  obtain ⟨p, q, hA0, hV, rfl, hfz, hnd⟩ := hW
  have hA : DataW.TrodAll enc Try.prog W 0 (fun _ => true) true Try.f3.params.toList args.toList ds p := hA0
  rw [Try.params3] at hA hval
  obtain ⟨v0, v1, d0, d1, p0, p1, hargs, rfl, rfl, h0, h1⟩ := trodAll_two hA
  obtain ⟨rfl, rfl⟩ := trodVars_none hV
  obtain rfl : args = #[v0, v1] := by cases args; simp_all
  obtain ⟨x0, _, r0⟩ := arg_one (P := Try.prog) (reads_string Try.underlying9) (one_cell (t := 9) (by rw [Try.underlying9]; rfl) (by rw [Try.underlying9]; simp) ⟨base, hval 0 9 v0 rfl rfl⟩) h0
  obtain ⟨x1, _, r1⟩ := arg_agg (P := Try.prog) readsEdit (by rw [Try.underlying23]; rfl) ⟨base, hval 1 23 v1 rfl rfl⟩ h1
  refine (walk r0 r1).mono fun e W' he => ?_
  exact law_post (P := Try.prog) (tb := 4) (by kernel_rfl) (by kernel_rfl) rfl (by kernel_rfl) Try.underlying4 hW' ⟨rfl, rfl, rfl⟩ he

set_option maxRecDepth 100000 in
theorem lifted (os : Os) (started : os.Started) (Hd : Type) (enc : TypeId × Value → Hd) :
    ReturnsInHanded {} Try.checked os 3 .any (Rows.editsKeepsSpec.pre6 enc Try.prog Try.f3 Rows.editsKeepsRow.domain false) (Rows.editsKeepsSpec.post enc Try.prog Try.f3 false true false false) := by
  refine returnsInHanded_of_change (C := Try.checked) own started (by kernel_rfl) Try.func3
    (ChangeSpec.witness6 (enc := enc) (C := Try.checked) false ⟨#[], #[.string .empty, .agg #[.int .i64 0, .int .i64 0, .string .empty]], []⟩ 8 (by kernel_rfl) (by kernel_rfl) (by kernel_rfl) (by kernel_rfl)) ?_
  intro W base args ds gs before hval hW _ _
  exact contract Hd enc W base args ds gs before hval hW

theorem holds : Rows.EditsKeepsSaid :=
  OpenClaim.holds_of_wide 3 Try.f3 rfl rfl rfl rfl rfl rfl rfl ⟨rfl, rfl, rfl, rfl, rfl⟩ rfl rfl rfl rfl rfl (by kernel_rfl) Try.func3 (by kernel_rfl)
    (of_decide_eq_true (by kernel_rfl)) (by unfold Func.isWrapper; first | (rw [if_pos (by decide +kernel)]; kernel_rfl) | (rw [if_neg (by decide +kernel)]; exact ⟨rfl, rfl⟩))
    (fun os started H enc _ => lifted os started H enc)
#print axioms holds
end Go.Proofs.Ytabhplelhjcdiaa.EditsKeeps
