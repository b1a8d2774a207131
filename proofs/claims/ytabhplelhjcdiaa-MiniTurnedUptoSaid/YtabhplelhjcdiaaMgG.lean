/- The table of the functions, and the trial of the law, told. -/
import Derived.Test.YtabhplelhjcdiaaRows
import Derived.ProofKit
import Derived.Test.YtabhplelhjcdiaaMgE
import Derived.Test.YtabhplelhjcdiaaMi20d
namespace Go.Proofs.Ytabhplelhjcdiaa.Mini
open Go.Rx Go.ChangeShapes Go.WideShapes Go.ChangeAt Go.RowKit Go.WideElems
set_option linter.unusedVariables false
set_option linter.unusedSimpArgs false

theorem own : ownKnob Try.prog.godebug = none := by kernel_rfl
theorem deep : 50 ≤ Try.prog.depth := by decide +kernel
theorem follows : Try.prog.follows .mixedOrders = true := by kernel_rfl
noncomputable def M : Mach := ⟨F, trueO [17]⟩
theorem tableOk : TableOk Try.prog F := by
  refine tabF_ok fun p hp => ?_
  simp only [List.mem_cons, List.not_mem_nil, or_false] at hp
  rcases hp with rfl | rfl | rfl | rfl | rfl | rfl | rfl | rfl | rfl | rfl | rfl | rfl | rfl | rfl | rfl | rfl | rfl | rfl | rfl | rfl
  all_goals kernel_rfl
end Go.Proofs.Ytabhplelhjcdiaa.Mini

namespace Go.Proofs.Ytabhplelhjcdiaa.Mini
open Go.Rx Go.ChangeShapes Go.WideShapes Go.ChangeAt Go.RowKit Go.WideElems

theorem oracleOk : OracleOk Try.prog M.O := by
  show OracleOk Try.prog (trueO [17])
  refine trueO_ok fun p hp => ?_
  obtain rfl : p = 17 := by simpa using hp
  obtain ⟨n, hn⟩ := run17
  exact FS1.closed (machine_sound deep follows tableOk (fun _ _ h => by cases h) n) hn
theorem readsDfa : Reads Try.prog 34 (1 + 256 * 1 + 1 + 1) dfaR dfaB :=
  reads_struct4 (P := Try.prog) (n0 := 1) (n1 := 256 * 1) (n2 := 1) (n3 := 1) Try.underlying34 rfl rfl rfl rfl (by kernel_rfl) (by kernel_rfl) (by kernel_rfl) (by kernel_rfl) (reads_int Try.underlying3)
    (reads_array Try.underlying30 (by kernel_rfl) (by kernel_rfl) (reads_int Try.underlying5) (intR_mono _))
    (reads_slice Try.underlying31 (by kernel_rfl) (by decide) (reads_slice Try.underlying32 (by kernel_rfl) (by decide) (reads_int Try.underlying3) (intR_mono _)) (slR_mono (intR_mono _)))
    (reads_slice Try.underlying32 (by kernel_rfl) (by decide) (reads_int Try.underlying3) (intR_mono _)) (by kernel_rfl) (intR_mono _) (arrR_mono (intR_mono _)) (slR_mono (slR_mono (intR_mono _))) (slR_mono (intR_mono _))
theorem readsInts : Reads Try.prog 32 1 (slR 3 (intR .i64)) (fun l => (l.map fun _ => 1).sum + 1) := reads_slice Try.underlying32 (by kernel_rfl) (by decide) (reads_int Try.underlying3) (intR_mono _)
end Go.Proofs.Ytabhplelhjcdiaa.Mini
