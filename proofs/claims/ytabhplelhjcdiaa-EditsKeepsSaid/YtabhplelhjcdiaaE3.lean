/- Contracts of functions of the given program, over the abstract machine. -/
import Derived.Test.YtabhplelhjcdiaaE2
namespace Go.Rx
variable {M : Mach}
set_option maxRecDepth 4000
set_option linter.unusedSimpArgs false

theorem upright_ok (hO : M.O 38 = none) (hF : M.F 38 = some A38) {s t : Int} {l : List UInt8} {h : Heap} {K : KF}
  (hk : ∀ h', Grow h h' → K (.bool (decide (0 ≤ s ∧ s ≤ t ∧ t ≤ 65536 ∧ l.length ≤ 65536))) h') : WF M 38 [.agg ⟨[vi s, vi t, vstr l]⟩] h K := by
  rw [WF_eqT 9 hO hF]
  repeat' first
    | refine WG_dec (fun hc => ?_) (fun hc => ?_)
    | refine WCond_dec (fun hc => ?_) (fun hc => ?_)
    | simp (maxSteps := 2000000) (disch := first | omega | (simp only [List.length_cons, List.length_nil, List.length_set, List.length_map, List.length_replicate, List.length_append, List.length_take, List.length_drop, Int.toNat_natCast] <;> omega) | fail) only [vi, vb, vstr, rxc, rxo, Nat.reduceLeDiff, List.getElem?_cons_zero, List.getElem?_cons_succ, List.length_cons, List.length_nil, List.set_cons_zero, List.set_cons_succ, ↓reduceIte, Bool.not_true, Bool.not_false, true_and, and_true, not_true_eq_false, not_false_eq_true, decide_true, decide_false, Nat.reduceEqDiff, Nat.reduceAdd, Nat.reduceMul, Nat.zero_add, Nat.mul_one, Int.toNat_natCast, A38, R38_0, R38_1]
  all_goals
    have hk' := hk _ (Grow.new (Grow.refl h) (x := .cells [vi s, vi t, vstr l] 23 true))
    first
    | (rw [decide_eq_true (by omega)] at hk'; exact hk')
    | (rw [decide_eq_false (by omega)] at hk'; exact hk')
    | exact cast (congrArg (fun b => K (.bool b) _) (decide_eq_decide.2 (by omega))) hk'

def movedF (s t : Int) (l : List UInt8) (a : Int) : Int := if a ≤ s then a else if a ≥ t then a - (t - s) + l.length else min a (s + l.length)
theorem moved_ok (hO : M.O 39 = none) (hF : M.F 39 = some A39) {s t a : Int} {l : List UInt8} {h : Heap} {K : KF}
  (h0 : 0 ≤ s) (h1 : s ≤ t) (h2 : t ≤ 65536) (h3 : l.length ≤ 65536) (h4 : 0 ≤ a) (h5 : a ≤ 65536)
  (hk : ∀ h', Grow h h' → K (vi (movedF s t l a)) h') : WF M 39 [.agg ⟨[vi s, vi t, vstr l]⟩, vi a] h K := by
  rw [WF_eqT 9 hO hF]
  unfold movedF at hk
  repeat' first
    | refine WG_dec (fun hc => ?_) (fun hc => ?_)
    | refine WCond_dec (fun hc => ?_) (fun hc => ?_)
    | simp (maxSteps := 2000000) (disch := first | omega | (simp only [List.length_cons, List.length_nil, List.length_set, List.length_map, List.length_replicate, List.length_append, List.length_take, List.length_drop, Int.toNat_natCast] <;> omega) | fail) only [vi, vb, vstr, rxc, rxo, Nat.reduceLeDiff, List.getElem?_cons_zero, List.getElem?_cons_succ, List.length_cons, List.length_nil, List.set_cons_zero, List.set_cons_succ, ↓reduceIte, Bool.not_true, Bool.not_false, true_and, and_true, not_true_eq_false, not_false_eq_true, decide_true, decide_false, Nat.reduceEqDiff, Nat.reduceAdd, Nat.reduceMul, Nat.zero_add, Nat.mul_one, Int.toNat_natCast, A39, R39_0, R39_1, R39_2, R39_3, R39_4, R39_5]
  all_goals
    have hk' := hk _ (Grow.new (Grow.refl h) (x := .cells [vi s, vi t, vstr l] 23 true))
    repeat' split at hk'
    all_goals first | exact hk' | (exfalso; omega)

def atF (s t : Int) (l : List UInt8) (a : Int) : Int := if 0 ≤ s ∧ s ≤ t ∧ t ≤ 65536 ∧ l.length ≤ 65536 ∧ 0 ≤ a ∧ a ≤ 65536 then movedF s t l a else 0
theorem at_ok (hO38 : M.O 38 = none) (hF38 : M.F 38 = some A38) (hO39 : M.O 39 = none) (hF39 : M.F 39 = some A39) (hO : M.O 14 = none) (hF : M.F 14 = some A14) {s t a : Int} {l : List UInt8} {h : Heap} {K : KF}
  (hk : ∀ h', Grow h h' → K (vi (atF s t l a)) h') : WF M 14 [.agg ⟨[vi s, vi t, vstr l]⟩, vi a] h K := by
  rw [WF_eqT 9 hO hF]
  unfold atF at hk
  simp (maxSteps := 2000000) (disch := first | omega | (simp only [List.length_cons, List.length_nil, List.length_set, List.length_map, List.length_replicate, List.length_append, List.length_take, List.length_drop, Int.toNat_natCast] <;> omega) | fail) only [vi, vb, vstr, rxc, rxo, Nat.reduceLeDiff, List.getElem?_cons_zero, List.getElem?_cons_succ, List.length_cons, List.length_nil, List.set_cons_zero, List.set_cons_succ, ↓reduceIte, Bool.not_true, Bool.not_false, true_and, and_true, not_true_eq_false, not_false_eq_true, decide_true, decide_false, Nat.reduceEqDiff, Nat.reduceAdd, Nat.reduceMul, Nat.zero_add, Nat.mul_one, Int.toNat_natCast, A14, R14_0, R14_1]
  refine upright_ok hO38 hF38 fun h1 g1 => ?_
  have g1' := g1
  simp only [Grow, Heap.next_new] at g1
  repeat' first
    | refine WG_dec (fun hc => ?_) (fun hc => ?_)
    | refine WCond_dec (fun hc => ?_) (fun hc => ?_)
    | simp (maxSteps := 2000000) (disch := first | omega | (simp only [List.length_cons, List.length_nil, List.length_set, List.length_map, List.length_replicate, List.length_append, List.length_take, List.length_drop, Int.toNat_natCast] <;> omega) | fail) only [vi, vb, vstr, rxc, rxo, Nat.reduceLeDiff, List.getElem?_cons_zero, List.getElem?_cons_succ, List.length_cons, List.length_nil, List.set_cons_zero, List.set_cons_succ, ↓reduceIte, Bool.not_true, Bool.not_false, true_and, and_true, not_true_eq_false, not_false_eq_true, decide_true, decide_false, Nat.reduceEqDiff, Nat.reduceAdd, Nat.reduceMul, Nat.zero_add, Nat.mul_one, Int.toNat_natCast, R14_2, R14_3, g1.2]
  all_goals first
    | (refine moved_ok hO39 hF39 (by omega) (by omega) (by omega) (by omega) (by omega) (by omega) fun h2 g2 => ?_
       simp (maxSteps := 2000000) (disch := first | omega | (simp only [List.length_cons, List.length_nil, List.length_set, List.length_map, List.length_replicate, List.length_append, List.length_take, List.length_drop, Int.toNat_natCast] <;> omega) | fail) only [vi, vb, vstr, rxc, rxo, Nat.reduceLeDiff, List.getElem?_cons_zero, List.getElem?_cons_succ, List.length_cons, List.length_nil, List.set_cons_zero, List.set_cons_succ, ↓reduceIte, Bool.not_true, Bool.not_false, true_and, and_true, not_true_eq_false, not_false_eq_true, decide_true, decide_false, Nat.reduceEqDiff, Nat.reduceAdd, Nat.reduceMul, Nat.zero_add, Nat.mul_one, Int.toNat_natCast]
       have hk' := hk _ (g1'.new1.trans g2)
       rw [if_pos (by omega)] at hk'
       exact hk')
    | (have hk' := hk _ g1'.new1
       rw [if_neg (by omega)] at hk'
       exact hk')
theorem apply_ok (hm : M.Mono) (hO37 : M.O 37 = none) (hF37 : M.F 37 = some A37) (hO : M.O 12 = none) (hF : M.F 12 = some A12) {s t : Int} {x l : List UInt8} {h : Heap} {K : KF} (hx : x.length ≤ 9223372036854775807)
  (hk : ∀ h', Grow h h' → K (if checkF x.length s t l = 0 then .tuple ⟨[vstr (x.take s.toNat ++ l ++ x.drop t.toNat), vi 0]⟩ else .tuple ⟨[vstr [], vi (checkF x.length s t l)]⟩) h') : WF M 12 [vstr x, .agg ⟨[vi s, vi t, vstr l]⟩] h K := by
  rw [WF_eqT 9 hO hF]
  simp (maxSteps := 2000000) (disch := first | omega | (simp only [List.length_cons, List.length_nil, List.length_set, List.length_map, List.length_replicate, List.length_append, List.length_take, List.length_drop, Int.toNat_natCast] <;> omega) | fail) only [vi, vb, vstr, rxc, rxo, Nat.reduceLeDiff, List.getElem?_cons_zero, List.getElem?_cons_succ, List.length_cons, List.length_nil, List.set_cons_zero, List.set_cons_succ, ↓reduceIte, Bool.not_true, Bool.not_false, true_and, and_true, not_true_eq_false, not_false_eq_true, decide_true, decide_false, Nat.reduceEqDiff, Nat.reduceAdd, Nat.reduceMul, Nat.zero_add, Nat.mul_one, Int.toNat_natCast, A12, R12_0, R12_1]
  refine check_ok hO37 hF37 fun h1 g1 => ?_
  have g1' := g1
  simp only [Grow, Heap.next_new] at g1
  simp (maxSteps := 2000000) (disch := first | omega | (simp only [List.length_cons, List.length_nil, List.length_set, List.length_map, List.length_replicate, List.length_append, List.length_take, List.length_drop, Int.toNat_natCast] <;> omega) | fail) only [vi, vb, vstr, rxc, rxo, Nat.reduceLeDiff, List.getElem?_cons_zero, List.getElem?_cons_succ, List.length_cons, List.length_nil, List.set_cons_zero, List.set_cons_succ, ↓reduceIte, Bool.not_true, Bool.not_false, true_and, and_true, not_true_eq_false, not_false_eq_true, decide_true, decide_false, Nat.reduceEqDiff, Nat.reduceAdd, Nat.reduceMul, Nat.zero_add, Nat.mul_one, Int.toNat_natCast, R12_2]
  refine WCond_dec (fun hc => ?_) (fun hc => ?_)
  · simp (maxSteps := 2000000) (disch := first | omega | (simp only [List.length_cons, List.length_nil, List.length_set, List.length_map, List.length_replicate, List.length_append, List.length_take, List.length_drop, Int.toNat_natCast] <;> omega) | fail) only [vi, vb, vstr, rxc, rxo, Nat.reduceLeDiff, List.getElem?_cons_zero, List.getElem?_cons_succ, List.length_cons, List.length_nil, List.set_cons_zero, List.set_cons_succ, ↓reduceIte, Bool.not_true, Bool.not_false, true_and, and_true, not_true_eq_false, not_false_eq_true, decide_true, decide_false, Nat.reduceEqDiff, Nat.reduceAdd, Nat.reduceMul, Nat.zero_add, Nat.mul_one, Int.toNat_natCast, R12_3]
    have hk' := hk _ g1'.new1
    rw [if_neg hc] at hk'
    exact hk'
  · have hc0 : checkF x.length s t l = 0 := by omega
    have hh := hc0
    unfold checkF at hh
    have : 0 ≤ s ∧ s ≤ t ∧ t ≤ x.length ∧ (x.length : Int) ≤ 65536 ∧ l.length ≤ 65536 - (x.length : Int) + (t - s) := by
      repeat' split at hh
      all_goals omega
    simp (maxSteps := 2000000) (disch := first | omega | (simp only [List.length_cons, List.length_nil, List.length_set, List.length_map, List.length_replicate, List.length_append, List.length_take, List.length_drop, Int.toNat_natCast] <;> omega) | fail) only [vi, vb, vstr, rxc, rxo, Nat.reduceLeDiff, List.getElem?_cons_zero, List.getElem?_cons_succ, List.length_cons, List.length_nil, List.set_cons_zero, List.set_cons_succ, ↓reduceIte, Bool.not_true, Bool.not_false, true_and, and_true, not_true_eq_false, not_false_eq_true, decide_true, decide_false, Nat.reduceEqDiff, Nat.reduceAdd, Nat.reduceMul, Nat.zero_add, Nat.mul_one, Int.toNat_natCast]
    refine WC_regd0 hm ?_
    simp (maxSteps := 2000000) (disch := first | omega | (simp only [List.length_cons, List.length_nil, List.length_set, List.length_map, List.length_replicate, List.length_append, List.length_take, List.length_drop, Int.toNat_natCast] <;> omega) | fail) only [vi, vb, vstr, rxc, rxo, Nat.reduceLeDiff, List.getElem?_cons_zero, List.getElem?_cons_succ, List.length_cons, List.length_nil, List.set_cons_zero, List.set_cons_succ, ↓reduceIte, Bool.not_true, Bool.not_false, true_and, and_true, not_true_eq_false, not_false_eq_true, decide_true, decide_false, Nat.reduceEqDiff, Nat.reduceAdd, Nat.reduceMul, Nat.zero_add, Nat.mul_one, Int.toNat_natCast, R12_4, g1.2]
    have hk' := hk _ g1'.new1
    rw [if_pos hc0] at hk'
    exact hk'
end Go.Rx
