/- Contracts of functions of the given program, over the abstract machine. -/
import Derived.Test.YtabhplelhjcdiaaE1
namespace Go.Rx
variable {M : Mach}

def checkF (n s t : Int) (l : List UInt8) : Int :=
  if n < 0 ∨ n > 65536 then 2 else if s < 0 ∨ s > t ∨ t > n then 10 else if l.length > 65536 - n + (t - s) then 3 else 0

set_option maxRecDepth 4000
set_option linter.unusedSimpArgs false
theorem check_ok (hO : M.O 37 = none) (hF : M.F 37 = some A37) {n s t : Int} {l : List UInt8} {h : Heap} {K : KF}
  (hk : ∀ h', Grow h h' → K (vi (checkF n s t l)) h') : WF M 37 [vi n, .agg ⟨[vi s, vi t, vstr l]⟩] h K := by
  rw [WF_eqT 9 hO hF]
  unfold checkF at hk
  repeat' first
    | refine WG_dec (fun hc => ?_) (fun hc => ?_)
    | refine WCond_dec (fun hc => ?_) (fun hc => ?_)
    | simp (maxSteps := 2000000) (disch := first | omega | (simp only [List.length_cons, List.length_nil, List.length_set, List.length_map, List.length_replicate, List.length_append, List.length_take, List.length_drop, Int.toNat_natCast] <;> omega) | fail) only [vi, vb, vstr, rxc, rxo, Nat.reduceLeDiff, List.getElem?_cons_zero, List.getElem?_cons_succ, List.length_cons, List.length_nil, List.set_cons_zero, List.set_cons_succ, ↓reduceIte, Bool.not_true, Bool.not_false, true_and, and_true, not_true_eq_false, not_false_eq_true, decide_true, decide_false, Nat.reduceEqDiff, Nat.reduceAdd, Nat.reduceMul, Nat.zero_add, Nat.mul_one, Int.toNat_natCast, A37, R37_0, R37_1, R37_2, R37_3, R37_4, R37_5, R37_6, R37_7]
  all_goals
    have hk' := hk _ (Grow.new (Grow.refl h) (x := .cells [vi s, vi t, vstr l] 23 true))
    repeat' split at hk'
    all_goals first | exact hk' | (exfalso; omega)
end Go.Rx
