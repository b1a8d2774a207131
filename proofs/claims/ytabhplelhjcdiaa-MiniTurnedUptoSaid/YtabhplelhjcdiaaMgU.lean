/- The bulk of the data, as the statements count it. -/
import Derived.Test.YtabhplelhjcdiaaMgG
namespace Go.Proofs.Ytabhplelhjcdiaa.Mini
open Go.Rx Go.ChangeShapes Go.WideShapes Go.ChangeAt Go.RowKit Go.WideElems
set_option linter.unusedVariables false
set_option linter.unusedSimpArgs false

mutual
theorem ub {H : Type} : ∀ d : DataW H, Rows.uptoBulk d = bulk d
  | .lit l => by cases l <;> rfl
  | .nil => rfl
  | .ptr d => by simp only [Rows.uptoBulk, bulk, ub d]
  | .slice a b => by simp only [Rows.uptoBulk, bulk, ubAll a, ubAll b]
  | .agg a => by simp only [Rows.uptoBulk, bulk, ubAll a]
  | .iface _ d => by simp only [Rows.uptoBulk, bulk, ub d]
  | .map a => by simp only [Rows.uptoBulk, bulk, ubEnts a]
  | .held _ => rfl
theorem ubAll {H : Type} : ∀ l : List (DataW H), Rows.uptoBulkAll l = bulkAll l
  | [] => rfl
  | d :: r => by simp only [Rows.uptoBulkAll, bulkAll, ub d, ubAll r]
theorem ubEnts {H : Type} : ∀ l : List (Lit × DataW H), Rows.uptoBulkEntries l = bulkEntries l
  | [] => rfl
  | (x, d) :: r => by simp only [Rows.uptoBulkEntries, bulkEntries, ubEnt x d, ubEnts r]
theorem ubEnt {H : Type} : ∀ (x : Lit) (d : DataW H), Rows.uptoBulkEntry (x, d) = bulkEntry (x, d)
  | x, d => by cases x <;> simp only [Rows.uptoBulkEntry, bulkEntry, ub d]
end

end Go.Proofs.Ytabhplelhjcdiaa.Mini
