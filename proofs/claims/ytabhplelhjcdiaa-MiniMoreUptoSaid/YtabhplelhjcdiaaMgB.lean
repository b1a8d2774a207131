/- Contracts of functions of the given program, over the abstract machine. -/
import Derived.Test.YtabhplelhjcdiaaMiCode
import Derived.Test.YtabhplelhjcdiaaRxSl2
namespace Go.Rx
variable {M : Mach}
set_option maxRecDepth 4000
set_option linter.unusedSimpArgs false
set_option linter.unusedVariables false

def maxI : List Int → Int
  | [] => 0
  | x :: l => l.foldl max x

theorem drop_cons {l : List Int} {i : Nat} (h : i < l.length) : l.drop i = l.getD i 0 :: l.drop (i + 1) := by
  rw [List.drop_eq_getElem_cons h, List.getD_eq_getElem?_getD, List.getElem?_eq_getElem h]; rfl

theorem max_ok (hO : M.O 41 = none) (hF : M.F 41 = some A41) {v : Value} {l : List Int} {h : Heap} {K : KF} (hs : SlV h v (l.map (.int .i64))) (hl : 0 < l.length) (hlen : l.length < 4611686018427387904)
  (hk : K (.int .i64 (maxI l)) h) : WF M 41 [v] h K := by
  rw [WF_eqT 5 hO hF]
  have r := hs.r
  simp only [List.length_map] at r
  have hl0 : ¬ ((l.length : Int) < 1) := by omega
  have hm : maxI l = (l.drop 1).foldl max (l.getD 0 0) := by
    cases l with
    | nil => simp at hl
    | cons x l => rfl
  simp (maxSteps := 2000000) (disch := first | omega | assumption | (simp only [oneC_int, oneC_bool, oneC_str, oneC_ptr, oneC_sl, oneC_map]; done) | (simp only [List.length_cons, List.length_nil, List.length_set, List.length_map, List.length_replicate, List.length_append, List.length_take, List.length_drop, Int.toNat_natCast] <;> omega) | fail) only [vi, vb, vstr, rxc, rxo, Nat.reduceLeDiff, List.getElem?_cons_zero, List.getElem?_cons_succ, List.length_cons, List.length_nil, List.set_cons_zero, List.set_cons_succ, ↓reduceIte, Bool.not_true, Bool.not_false, true_and, and_true, not_true_eq_false, not_false_eq_true, decide_true, decide_false, Nat.reduceEqDiff, Nat.reduceAdd, Nat.reduceMul, Nat.reducePow, Int.reduceToNat, Int.reducePow, Nat.zero_add, Nat.mul_one, Int.toNat_natCast, A41, R41_0, R41_1, r, hl0, R41_3, ints_get, Int.toNat_zero, R41_4]
  refine WC_bloop 5 (fun m e h' => ∃ (i : Int) (x : Int), m = (l.length - i).toNat ∧ 1 ≤ i ∧ e.g 0 = v ∧ e.g 3 = .int .i64 x ∧ e.g 4 = .int .i64 i ∧ h' = h ∧ (l.drop i.toNat).foldl max x = maxI l)
    (fun e h' => e.g 3 = .int .i64 (maxI l) ∧ h' = h) ?_ ?_ ?_
  · refine ⟨_, 1, l.getD 0 0, rfl, by omega, ?_, ?_, ?_, rfl, ?_⟩
    · simp (maxSteps := 2000000) (disch := first | omega | assumption | (simp only [oneC_int, oneC_bool, oneC_str, oneC_ptr, oneC_sl, oneC_map]; done) | (simp only [List.length_cons, List.length_nil, List.length_set, List.length_map, List.length_replicate, List.length_append, List.length_take, List.length_drop, Int.toNat_natCast] <;> omega) | fail) only [vi, vb, vstr, rxc, rxo, Nat.reduceLeDiff, List.getElem?_cons_zero, List.getElem?_cons_succ, List.length_cons, List.length_nil, List.set_cons_zero, List.set_cons_succ, ↓reduceIte, Bool.not_true, Bool.not_false, true_and, and_true, not_true_eq_false, not_false_eq_true, decide_true, decide_false, Nat.reduceEqDiff, Nat.reduceAdd, Nat.reduceMul, Nat.reducePow, Int.reduceToNat, Int.reducePow, Nat.zero_add, Nat.mul_one, Int.toNat_natCast]
    · simp (maxSteps := 2000000) (disch := first | omega | assumption | (simp only [oneC_int, oneC_bool, oneC_str, oneC_ptr, oneC_sl, oneC_map]; done) | (simp only [List.length_cons, List.length_nil, List.length_set, List.length_map, List.length_replicate, List.length_append, List.length_take, List.length_drop, Int.toNat_natCast] <;> omega) | fail) only [vi, vb, vstr, rxc, rxo, Nat.reduceLeDiff, List.getElem?_cons_zero, List.getElem?_cons_succ, List.length_cons, List.length_nil, List.set_cons_zero, List.set_cons_succ, ↓reduceIte, Bool.not_true, Bool.not_false, true_and, and_true, not_true_eq_false, not_false_eq_true, decide_true, decide_false, Nat.reduceEqDiff, Nat.reduceAdd, Nat.reduceMul, Nat.reducePow, Int.reduceToNat, Int.reducePow, Nat.zero_add, Nat.mul_one, Int.toNat_natCast]
    · simp (maxSteps := 2000000) (disch := first | omega | assumption | (simp only [oneC_int, oneC_bool, oneC_str, oneC_ptr, oneC_sl, oneC_map]; done) | (simp only [List.length_cons, List.length_nil, List.length_set, List.length_map, List.length_replicate, List.length_append, List.length_take, List.length_drop, Int.toNat_natCast] <;> omega) | fail) only [vi, vb, vstr, rxc, rxo, Nat.reduceLeDiff, List.getElem?_cons_zero, List.getElem?_cons_succ, List.length_cons, List.length_nil, List.set_cons_zero, List.set_cons_succ, ↓reduceIte, Bool.not_true, Bool.not_false, true_and, and_true, not_true_eq_false, not_false_eq_true, decide_true, decide_false, Nat.reduceEqDiff, Nat.reduceAdd, Nat.reduceMul, Nat.reducePow, Int.reduceToNat, Int.reducePow, Nat.zero_add, Nat.mul_one, Int.toNat_natCast]
    · exact hm.symm
  · rintro m e h' ⟨i, x, rfl, hi, e0, e3, e4, rfl, hf⟩
    simp (maxSteps := 2000000) (disch := first | omega | assumption | (simp only [oneC_int, oneC_bool, oneC_str, oneC_ptr, oneC_sl, oneC_map]; done) | (simp only [List.length_cons, List.length_nil, List.length_set, List.length_map, List.length_replicate, List.length_append, List.length_take, List.length_drop, Int.toNat_natCast] <;> omega) | fail) only [vi, vb, vstr, rxc, rxo, Nat.reduceLeDiff, List.getElem?_cons_zero, List.getElem?_cons_succ, List.length_cons, List.length_nil, List.set_cons_zero, List.set_cons_succ, ↓reduceIte, Bool.not_true, Bool.not_false, true_and, and_true, not_true_eq_false, not_false_eq_true, decide_true, decide_false, Nat.reduceEqDiff, Nat.reduceAdd, Nat.reduceMul, Nat.reducePow, Int.reduceToNat, Int.reducePow, Nat.zero_add, Nat.mul_one, Int.toNat_natCast, B41_0, R41_5, e0, e3, e4, r]
    refine WCond_dec (fun hc => ?_) (fun hc => ?_)
    · have hd := drop_cons (l := l) (i := i.toNat) (by omega)
      rw [hd, List.foldl_cons] at hf
      simp (maxSteps := 2000000) (disch := first | omega | assumption | (simp only [oneC_int, oneC_bool, oneC_str, oneC_ptr, oneC_sl, oneC_map]; done) | (simp only [List.length_cons, List.length_nil, List.length_set, List.length_map, List.length_replicate, List.length_append, List.length_take, List.length_drop, Int.toNat_natCast] <;> omega) | fail) only [vi, vb, vstr, rxc, rxo, Nat.reduceLeDiff, List.getElem?_cons_zero, List.getElem?_cons_succ, List.length_cons, List.length_nil, List.set_cons_zero, List.set_cons_succ, ↓reduceIte, Bool.not_true, Bool.not_false, true_and, and_true, not_true_eq_false, not_false_eq_true, decide_true, decide_false, Nat.reduceEqDiff, Nat.reduceAdd, Nat.reduceMul, Nat.reducePow, Int.reduceToNat, Int.reducePow, Nat.zero_add, Nat.mul_one, Int.toNat_natCast, R41_6, e0, e3, e4, r, ints_get, R41_7]
      exact ⟨_, by omega, i + 1, _, rfl, by omega, rfl, rfl, by rw [show (i + 1).toNat = i.toNat + 1 by omega]; exact hf⟩
    · simp (maxSteps := 2000000) (disch := first | omega | assumption | (simp only [oneC_int, oneC_bool, oneC_str, oneC_ptr, oneC_sl, oneC_map]; done) | (simp only [List.length_cons, List.length_nil, List.length_set, List.length_map, List.length_replicate, List.length_append, List.length_take, List.length_drop, Int.toNat_natCast] <;> omega) | fail) only [vi, vb, vstr, rxc, rxo, Nat.reduceLeDiff, List.getElem?_cons_zero, List.getElem?_cons_succ, List.length_cons, List.length_nil, List.set_cons_zero, List.set_cons_succ, ↓reduceIte, Bool.not_true, Bool.not_false, true_and, and_true, not_true_eq_false, not_false_eq_true, decide_true, decide_false, Nat.reduceEqDiff, Nat.reduceAdd, Nat.reduceMul, Nat.reducePow, Int.reduceToNat, Int.reducePow, Nat.zero_add, Nat.mul_one, Int.toNat_natCast, e0, e3, e4]
      rw [List.drop_of_length_le (by omega), List.foldl_nil] at hf
      rw [hf]
  · rintro e h' ⟨e3, rfl⟩
    simp (maxSteps := 2000000) (disch := first | omega | assumption | (simp only [oneC_int, oneC_bool, oneC_str, oneC_ptr, oneC_sl, oneC_map]; done) | (simp only [List.length_cons, List.length_nil, List.length_set, List.length_map, List.length_replicate, List.length_append, List.length_take, List.length_drop, Int.toNat_natCast] <;> omega) | fail) only [vi, vb, vstr, rxc, rxo, Nat.reduceLeDiff, List.getElem?_cons_zero, List.getElem?_cons_succ, List.length_cons, List.length_nil, List.set_cons_zero, List.set_cons_succ, ↓reduceIte, Bool.not_true, Bool.not_false, true_and, and_true, not_true_eq_false, not_false_eq_true, decide_true, decide_false, Nat.reduceEqDiff, Nat.reduceAdd, Nat.reduceMul, Nat.reducePow, Int.reduceToNat, Int.reducePow, Nat.zero_add, Nat.mul_one, Int.toNat_natCast, R41_8, e3]
    exact hk
theorem max8_ok (hO : M.O 40 = none) (hF : M.F 40 = some A40) {v : Value} {l : List Int} {h : Heap} {K : KF} (hs : SlV h v (l.map (.int .u8))) (hl : 0 < l.length) (hlen : l.length < 4611686018427387904)
  (hk : K (.int .u8 (maxI l)) h) : WF M 40 [v] h K := by
  rw [WF_eqT 5 hO hF]
  have r := hs.r
  simp only [List.length_map] at r
  have hl0 : ¬ ((l.length : Int) < 1) := by omega
  have hm : maxI l = (l.drop 1).foldl max (l.getD 0 0) := by
    cases l with
    | nil => simp at hl
    | cons x l => rfl
  simp (maxSteps := 2000000) (disch := first | omega | assumption | (simp only [oneC_int, oneC_bool, oneC_str, oneC_ptr, oneC_sl, oneC_map]; done) | (simp only [List.length_cons, List.length_nil, List.length_set, List.length_map, List.length_replicate, List.length_append, List.length_take, List.length_drop, Int.toNat_natCast] <;> omega) | fail) only [vi, vb, vstr, rxc, rxo, Nat.reduceLeDiff, List.getElem?_cons_zero, List.getElem?_cons_succ, List.length_cons, List.length_nil, List.set_cons_zero, List.set_cons_succ, ↓reduceIte, Bool.not_true, Bool.not_false, true_and, and_true, not_true_eq_false, not_false_eq_true, decide_true, decide_false, Nat.reduceEqDiff, Nat.reduceAdd, Nat.reduceMul, Nat.reducePow, Int.reduceToNat, Int.reducePow, Nat.zero_add, Nat.mul_one, Int.toNat_natCast, A40, R40_0, R40_1, r, hl0, R40_3, ints_get, Int.toNat_zero, R40_4]
  refine WC_bloop 5 (fun m e h' => ∃ (i : Int) (x : Int), m = (l.length - i).toNat ∧ 1 ≤ i ∧ e.g 0 = v ∧ e.g 3 = .int .u8 x ∧ e.g 4 = .int .i64 i ∧ h' = h ∧ (l.drop i.toNat).foldl max x = maxI l)
    (fun e h' => e.g 3 = .int .u8 (maxI l) ∧ h' = h) ?_ ?_ ?_
  · refine ⟨_, 1, l.getD 0 0, rfl, by omega, ?_, ?_, ?_, rfl, ?_⟩
    · simp (maxSteps := 2000000) (disch := first | omega | assumption | (simp only [oneC_int, oneC_bool, oneC_str, oneC_ptr, oneC_sl, oneC_map]; done) | (simp only [List.length_cons, List.length_nil, List.length_set, List.length_map, List.length_replicate, List.length_append, List.length_take, List.length_drop, Int.toNat_natCast] <;> omega) | fail) only [vi, vb, vstr, rxc, rxo, Nat.reduceLeDiff, List.getElem?_cons_zero, List.getElem?_cons_succ, List.length_cons, List.length_nil, List.set_cons_zero, List.set_cons_succ, ↓reduceIte, Bool.not_true, Bool.not_false, true_and, and_true, not_true_eq_false, not_false_eq_true, decide_true, decide_false, Nat.reduceEqDiff, Nat.reduceAdd, Nat.reduceMul, Nat.reducePow, Int.reduceToNat, Int.reducePow, Nat.zero_add, Nat.mul_one, Int.toNat_natCast]
    · simp (maxSteps := 2000000) (disch := first | omega | assumption | (simp only [oneC_int, oneC_bool, oneC_str, oneC_ptr, oneC_sl, oneC_map]; done) | (simp only [List.length_cons, List.length_nil, List.length_set, List.length_map, List.length_replicate, List.length_append, List.length_take, List.length_drop, Int.toNat_natCast] <;> omega) | fail) only [vi, vb, vstr, rxc, rxo, Nat.reduceLeDiff, List.getElem?_cons_zero, List.getElem?_cons_succ, List.length_cons, List.length_nil, List.set_cons_zero, List.set_cons_succ, ↓reduceIte, Bool.not_true, Bool.not_false, true_and, and_true, not_true_eq_false, not_false_eq_true, decide_true, decide_false, Nat.reduceEqDiff, Nat.reduceAdd, Nat.reduceMul, Nat.reducePow, Int.reduceToNat, Int.reducePow, Nat.zero_add, Nat.mul_one, Int.toNat_natCast]
    · simp (maxSteps := 2000000) (disch := first | omega | assumption | (simp only [oneC_int, oneC_bool, oneC_str, oneC_ptr, oneC_sl, oneC_map]; done) | (simp only [List.length_cons, List.length_nil, List.length_set, List.length_map, List.length_replicate, List.length_append, List.length_take, List.length_drop, Int.toNat_natCast] <;> omega) | fail) only [vi, vb, vstr, rxc, rxo, Nat.reduceLeDiff, List.getElem?_cons_zero, List.getElem?_cons_succ, List.length_cons, List.length_nil, List.set_cons_zero, List.set_cons_succ, ↓reduceIte, Bool.not_true, Bool.not_false, true_and, and_true, not_true_eq_false, not_false_eq_true, decide_true, decide_false, Nat.reduceEqDiff, Nat.reduceAdd, Nat.reduceMul, Nat.reducePow, Int.reduceToNat, Int.reducePow, Nat.zero_add, Nat.mul_one, Int.toNat_natCast]
    · exact hm.symm
  · rintro m e h' ⟨i, x, rfl, hi, e0, e3, e4, rfl, hf⟩
    simp (maxSteps := 2000000) (disch := first | omega | assumption | (simp only [oneC_int, oneC_bool, oneC_str, oneC_ptr, oneC_sl, oneC_map]; done) | (simp only [List.length_cons, List.length_nil, List.length_set, List.length_map, List.length_replicate, List.length_append, List.length_take, List.length_drop, Int.toNat_natCast] <;> omega) | fail) only [vi, vb, vstr, rxc, rxo, Nat.reduceLeDiff, List.getElem?_cons_zero, List.getElem?_cons_succ, List.length_cons, List.length_nil, List.set_cons_zero, List.set_cons_succ, ↓reduceIte, Bool.not_true, Bool.not_false, true_and, and_true, not_true_eq_false, not_false_eq_true, decide_true, decide_false, Nat.reduceEqDiff, Nat.reduceAdd, Nat.reduceMul, Nat.reducePow, Int.reduceToNat, Int.reducePow, Nat.zero_add, Nat.mul_one, Int.toNat_natCast, B40_0, R40_5, e0, e3, e4, r]
    refine WCond_dec (fun hc => ?_) (fun hc => ?_)
    · have hd := drop_cons (l := l) (i := i.toNat) (by omega)
      rw [hd, List.foldl_cons] at hf
      simp (maxSteps := 2000000) (disch := first | omega | assumption | (simp only [oneC_int, oneC_bool, oneC_str, oneC_ptr, oneC_sl, oneC_map]; done) | (simp only [List.length_cons, List.length_nil, List.length_set, List.length_map, List.length_replicate, List.length_append, List.length_take, List.length_drop, Int.toNat_natCast] <;> omega) | fail) only [vi, vb, vstr, rxc, rxo, Nat.reduceLeDiff, List.getElem?_cons_zero, List.getElem?_cons_succ, List.length_cons, List.length_nil, List.set_cons_zero, List.set_cons_succ, ↓reduceIte, Bool.not_true, Bool.not_false, true_and, and_true, not_true_eq_false, not_false_eq_true, decide_true, decide_false, Nat.reduceEqDiff, Nat.reduceAdd, Nat.reduceMul, Nat.reducePow, Int.reduceToNat, Int.reducePow, Nat.zero_add, Nat.mul_one, Int.toNat_natCast, R40_6, e0, e3, e4, r, ints_get, R40_7]
      exact ⟨_, by omega, i + 1, _, rfl, by omega, rfl, rfl, by rw [show (i + 1).toNat = i.toNat + 1 by omega]; exact hf⟩
    · simp (maxSteps := 2000000) (disch := first | omega | assumption | (simp only [oneC_int, oneC_bool, oneC_str, oneC_ptr, oneC_sl, oneC_map]; done) | (simp only [List.length_cons, List.length_nil, List.length_set, List.length_map, List.length_replicate, List.length_append, List.length_take, List.length_drop, Int.toNat_natCast] <;> omega) | fail) only [vi, vb, vstr, rxc, rxo, Nat.reduceLeDiff, List.getElem?_cons_zero, List.getElem?_cons_succ, List.length_cons, List.length_nil, List.set_cons_zero, List.set_cons_succ, ↓reduceIte, Bool.not_true, Bool.not_false, true_and, and_true, not_true_eq_false, not_false_eq_true, decide_true, decide_false, Nat.reduceEqDiff, Nat.reduceAdd, Nat.reduceMul, Nat.reducePow, Int.reduceToNat, Int.reducePow, Nat.zero_add, Nat.mul_one, Int.toNat_natCast, e0, e3, e4]
      rw [List.drop_of_length_le (by omega), List.foldl_nil] at hf
      rw [hf]
  · rintro e h' ⟨e3, rfl⟩
    simp (maxSteps := 2000000) (disch := first | omega | assumption | (simp only [oneC_int, oneC_bool, oneC_str, oneC_ptr, oneC_sl, oneC_map]; done) | (simp only [List.length_cons, List.length_nil, List.length_set, List.length_map, List.length_replicate, List.length_append, List.length_take, List.length_drop, Int.toNat_natCast] <;> omega) | fail) only [vi, vb, vstr, rxc, rxo, Nat.reduceLeDiff, List.getElem?_cons_zero, List.getElem?_cons_succ, List.length_cons, List.length_nil, List.set_cons_zero, List.set_cons_succ, ↓reduceIte, Bool.not_true, Bool.not_false, true_and, and_true, not_true_eq_false, not_false_eq_true, decide_true, decide_false, Nat.reduceEqDiff, Nat.reduceAdd, Nat.reduceMul, Nat.reducePow, Int.reduceToNat, Int.reducePow, Nat.zero_add, Nat.mul_one, Int.toNat_natCast, R40_8, e3]
    exact hk

theorem sameInts_ok (hm : M.Mono) (hO : M.O 44 = none) (hF : M.F 44 = some A44) {v w : Value} {a b : List Int} {h : Heap} {K : KF} (ha : SlV h v (a.map (.int .i64))) (hb : SlV h w (b.map (.int .i64))) (hlen : a.length < 4611686018427387904)
  (hk : K (.bool (decide (a = b))) h) : WF M 44 [v, w] h K := by
  rw [WF_eqT 6 hO hF]
  have r := ha.r
  have s := hb.r
  simp only [List.length_map] at r s
  simp (maxSteps := 2000000) (disch := first | omega | assumption | (simp only [oneC_int, oneC_bool, oneC_str, oneC_ptr, oneC_sl, oneC_map]; done) | (simp only [List.length_cons, List.length_nil, List.length_set, List.length_map, List.length_replicate, List.length_append, List.length_take, List.length_drop, Int.toNat_natCast] <;> omega) | fail) only [vi, vb, vstr, rxc, rxo, Nat.reduceLeDiff, List.getElem?_cons_zero, List.getElem?_cons_succ, List.length_cons, List.length_nil, List.set_cons_zero, List.set_cons_succ, ↓reduceIte, Bool.not_true, Bool.not_false, true_and, and_true, not_true_eq_false, not_false_eq_true, decide_true, decide_false, Nat.reduceEqDiff, Nat.reduceAdd, Nat.reduceMul, Nat.reducePow, Int.reduceToNat, Int.reducePow, Nat.zero_add, Nat.mul_one, Int.toNat_natCast, A44, R44_0, R44_1, r, s]
  refine WCond_dec (fun hc => ?_) (fun hc => ?_)
  · simp (maxSteps := 2000000) (disch := first | omega | assumption | (simp only [oneC_int, oneC_bool, oneC_str, oneC_ptr, oneC_sl, oneC_map]; done) | (simp only [List.length_cons, List.length_nil, List.length_set, List.length_map, List.length_replicate, List.length_append, List.length_take, List.length_drop, Int.toNat_natCast] <;> omega) | fail) only [vi, vb, vstr, rxc, rxo, Nat.reduceLeDiff, List.getElem?_cons_zero, List.getElem?_cons_succ, List.length_cons, List.length_nil, List.set_cons_zero, List.set_cons_succ, ↓reduceIte, Bool.not_true, Bool.not_false, true_and, and_true, not_true_eq_false, not_false_eq_true, decide_true, decide_false, Nat.reduceEqDiff, Nat.reduceAdd, Nat.reduceMul, Nat.reducePow, Int.reduceToNat, Int.reducePow, Nat.zero_add, Nat.mul_one, Int.toNat_natCast, R44_2]
    rw [decide_eq_false (fun e => hc (by rw [e]))] at hk
    exact hk
  · have hab : a.length = b.length := by omega
    simp (maxSteps := 2000000) (disch := first | omega | assumption | (simp only [oneC_int, oneC_bool, oneC_str, oneC_ptr, oneC_sl, oneC_map]; done) | (simp only [List.length_cons, List.length_nil, List.length_set, List.length_map, List.length_replicate, List.length_append, List.length_take, List.length_drop, Int.toNat_natCast] <;> omega) | fail) only [vi, vb, vstr, rxc, rxo, Nat.reduceLeDiff, List.getElem?_cons_zero, List.getElem?_cons_succ, List.length_cons, List.length_nil, List.set_cons_zero, List.set_cons_succ, ↓reduceIte, Bool.not_true, Bool.not_false, true_and, and_true, not_true_eq_false, not_false_eq_true, decide_true, decide_false, Nat.reduceEqDiff, Nat.reduceAdd, Nat.reduceMul, Nat.reducePow, Int.reduceToNat, Int.reducePow, Nat.zero_add, Nat.mul_one, Int.toNat_natCast, R44_3]
    refine WC_bloop 6 (fun m e h' => ∃ (i : Int), m = (a.length - i).toNat ∧ 0 ≤ i ∧ e.g 0 = v ∧ e.g 1 = w ∧ e.g 5 = .int .i64 i ∧ h' = h ∧ (a.drop i.toNat = b.drop i.toNat ↔ a = b))
      (fun e h' => a = b ∧ h' = h) ?_ ?_ ?_
    · refine ⟨_, 0, rfl, by omega, ?_, ?_, ?_, rfl, ?_⟩
      · simp (maxSteps := 2000000) (disch := first | omega | assumption | (simp only [oneC_int, oneC_bool, oneC_str, oneC_ptr, oneC_sl, oneC_map]; done) | (simp only [List.length_cons, List.length_nil, List.length_set, List.length_map, List.length_replicate, List.length_append, List.length_take, List.length_drop, Int.toNat_natCast] <;> omega) | fail) only [vi, vb, vstr, rxc, rxo, Nat.reduceLeDiff, List.getElem?_cons_zero, List.getElem?_cons_succ, List.length_cons, List.length_nil, List.set_cons_zero, List.set_cons_succ, ↓reduceIte, Bool.not_true, Bool.not_false, true_and, and_true, not_true_eq_false, not_false_eq_true, decide_true, decide_false, Nat.reduceEqDiff, Nat.reduceAdd, Nat.reduceMul, Nat.reducePow, Int.reduceToNat, Int.reducePow, Nat.zero_add, Nat.mul_one, Int.toNat_natCast]
      · simp (maxSteps := 2000000) (disch := first | omega | assumption | (simp only [oneC_int, oneC_bool, oneC_str, oneC_ptr, oneC_sl, oneC_map]; done) | (simp only [List.length_cons, List.length_nil, List.length_set, List.length_map, List.length_replicate, List.length_append, List.length_take, List.length_drop, Int.toNat_natCast] <;> omega) | fail) only [vi, vb, vstr, rxc, rxo, Nat.reduceLeDiff, List.getElem?_cons_zero, List.getElem?_cons_succ, List.length_cons, List.length_nil, List.set_cons_zero, List.set_cons_succ, ↓reduceIte, Bool.not_true, Bool.not_false, true_and, and_true, not_true_eq_false, not_false_eq_true, decide_true, decide_false, Nat.reduceEqDiff, Nat.reduceAdd, Nat.reduceMul, Nat.reducePow, Int.reduceToNat, Int.reducePow, Nat.zero_add, Nat.mul_one, Int.toNat_natCast]
      · simp (maxSteps := 2000000) (disch := first | omega | assumption | (simp only [oneC_int, oneC_bool, oneC_str, oneC_ptr, oneC_sl, oneC_map]; done) | (simp only [List.length_cons, List.length_nil, List.length_set, List.length_map, List.length_replicate, List.length_append, List.length_take, List.length_drop, Int.toNat_natCast] <;> omega) | fail) only [vi, vb, vstr, rxc, rxo, Nat.reduceLeDiff, List.getElem?_cons_zero, List.getElem?_cons_succ, List.length_cons, List.length_nil, List.set_cons_zero, List.set_cons_succ, ↓reduceIte, Bool.not_true, Bool.not_false, true_and, and_true, not_true_eq_false, not_false_eq_true, decide_true, decide_false, Nat.reduceEqDiff, Nat.reduceAdd, Nat.reduceMul, Nat.reducePow, Int.reduceToNat, Int.reducePow, Nat.zero_add, Nat.mul_one, Int.toNat_natCast]
      · simp
    · rintro m e h' ⟨i, rfl, hi, e0, e1, e5, rfl, hd⟩
      simp (maxSteps := 2000000) (disch := first | omega | assumption | (simp only [oneC_int, oneC_bool, oneC_str, oneC_ptr, oneC_sl, oneC_map]; done) | (simp only [List.length_cons, List.length_nil, List.length_set, List.length_map, List.length_replicate, List.length_append, List.length_take, List.length_drop, Int.toNat_natCast] <;> omega) | fail) only [vi, vb, vstr, rxc, rxo, Nat.reduceLeDiff, List.getElem?_cons_zero, List.getElem?_cons_succ, List.length_cons, List.length_nil, List.set_cons_zero, List.set_cons_succ, ↓reduceIte, Bool.not_true, Bool.not_false, true_and, and_true, not_true_eq_false, not_false_eq_true, decide_true, decide_false, Nat.reduceEqDiff, Nat.reduceAdd, Nat.reduceMul, Nat.reducePow, Int.reduceToNat, Int.reducePow, Nat.zero_add, Nat.mul_one, Int.toNat_natCast, B44_0, R44_4, e0, e1, e5, r]
      refine WCond_dec (fun hc => ?_) (fun hc => ?_)
      · rw [drop_cons (l := a) (i := i.toNat) (by omega), drop_cons (l := b) (i := i.toNat) (by omega), List.cons.injEq] at hd
        simp (maxSteps := 2000000) (disch := first | omega | assumption | (simp only [oneC_int, oneC_bool, oneC_str, oneC_ptr, oneC_sl, oneC_map]; done) | (simp only [List.length_cons, List.length_nil, List.length_set, List.length_map, List.length_replicate, List.length_append, List.length_take, List.length_drop, Int.toNat_natCast] <;> omega) | fail) only [vi, vb, vstr, rxc, rxo, Nat.reduceLeDiff, List.getElem?_cons_zero, List.getElem?_cons_succ, List.length_cons, List.length_nil, List.set_cons_zero, List.set_cons_succ, ↓reduceIte, Bool.not_true, Bool.not_false, true_and, and_true, not_true_eq_false, not_false_eq_true, decide_true, decide_false, Nat.reduceEqDiff, Nat.reduceAdd, Nat.reduceMul, Nat.reducePow, Int.reduceToNat, Int.reducePow, Nat.zero_add, Nat.mul_one, Int.toNat_natCast]
        refine WC_regd0 hm ?_
        simp (maxSteps := 2000000) (disch := first | omega | assumption | (simp only [oneC_int, oneC_bool, oneC_str, oneC_ptr, oneC_sl, oneC_map]; done) | (simp only [List.length_cons, List.length_nil, List.length_set, List.length_map, List.length_replicate, List.length_append, List.length_take, List.length_drop, Int.toNat_natCast] <;> omega) | fail) only [vi, vb, vstr, rxc, rxo, Nat.reduceLeDiff, List.getElem?_cons_zero, List.getElem?_cons_succ, List.length_cons, List.length_nil, List.set_cons_zero, List.set_cons_succ, ↓reduceIte, Bool.not_true, Bool.not_false, true_and, and_true, not_true_eq_false, not_false_eq_true, decide_true, decide_false, Nat.reduceEqDiff, Nat.reduceAdd, Nat.reduceMul, Nat.reducePow, Int.reduceToNat, Int.reducePow, Nat.zero_add, Nat.mul_one, Int.toNat_natCast, R44_5, e0, e1, e5, r, s, ints_get]
        refine WCond_dec (fun hn => ?_) (fun hn => ?_)
        · simp (maxSteps := 2000000) (disch := first | omega | assumption | (simp only [oneC_int, oneC_bool, oneC_str, oneC_ptr, oneC_sl, oneC_map]; done) | (simp only [List.length_cons, List.length_nil, List.length_set, List.length_map, List.length_replicate, List.length_append, List.length_take, List.length_drop, Int.toNat_natCast] <;> omega) | fail) only [vi, vb, vstr, rxc, rxo, Nat.reduceLeDiff, List.getElem?_cons_zero, List.getElem?_cons_succ, List.length_cons, List.length_nil, List.set_cons_zero, List.set_cons_succ, ↓reduceIte, Bool.not_true, Bool.not_false, true_and, and_true, not_true_eq_false, not_false_eq_true, decide_true, decide_false, Nat.reduceEqDiff, Nat.reduceAdd, Nat.reduceMul, Nat.reducePow, Int.reduceToNat, Int.reducePow, Nat.zero_add, Nat.mul_one, Int.toNat_natCast, R44_6]
          rw [decide_eq_false (fun e => hn (hd.2 e).1)] at hk
          exact hk
        · simp (maxSteps := 2000000) (disch := first | omega | assumption | (simp only [oneC_int, oneC_bool, oneC_str, oneC_ptr, oneC_sl, oneC_map]; done) | (simp only [List.length_cons, List.length_nil, List.length_set, List.length_map, List.length_replicate, List.length_append, List.length_take, List.length_drop, Int.toNat_natCast] <;> omega) | fail) only [vi, vb, vstr, rxc, rxo, Nat.reduceLeDiff, List.getElem?_cons_zero, List.getElem?_cons_succ, List.length_cons, List.length_nil, List.set_cons_zero, List.set_cons_succ, ↓reduceIte, Bool.not_true, Bool.not_false, true_and, and_true, not_true_eq_false, not_false_eq_true, decide_true, decide_false, Nat.reduceEqDiff, Nat.reduceAdd, Nat.reduceMul, Nat.reducePow, Int.reduceToNat, Int.reducePow, Nat.zero_add, Nat.mul_one, Int.toNat_natCast, R44_7, e0, e1, e5]
          refine ⟨_, by omega, i + 1, rfl, by omega, rfl, ?_⟩
          rw [show (i + 1).toNat = i.toNat + 1 by omega, ← hd]
          simp only [Decidable.not_not] at hn
          exact ⟨fun h => ⟨hn, h⟩, fun h => h.2⟩
      · simp (maxSteps := 2000000) (disch := first | omega | assumption | (simp only [oneC_int, oneC_bool, oneC_str, oneC_ptr, oneC_sl, oneC_map]; done) | (simp only [List.length_cons, List.length_nil, List.length_set, List.length_map, List.length_replicate, List.length_append, List.length_take, List.length_drop, Int.toNat_natCast] <;> omega) | fail) only [vi, vb, vstr, rxc, rxo, Nat.reduceLeDiff, List.getElem?_cons_zero, List.getElem?_cons_succ, List.length_cons, List.length_nil, List.set_cons_zero, List.set_cons_succ, ↓reduceIte, Bool.not_true, Bool.not_false, true_and, and_true, not_true_eq_false, not_false_eq_true, decide_true, decide_false, Nat.reduceEqDiff, Nat.reduceAdd, Nat.reduceMul, Nat.reducePow, Int.reduceToNat, Int.reducePow, Nat.zero_add, Nat.mul_one, Int.toNat_natCast]
        rw [List.drop_of_length_le (by omega), List.drop_of_length_le (by omega)] at hd
        simpa using hd
    · rintro e h' ⟨hab, rfl⟩
      simp (maxSteps := 2000000) (disch := first | omega | assumption | (simp only [oneC_int, oneC_bool, oneC_str, oneC_ptr, oneC_sl, oneC_map]; done) | (simp only [List.length_cons, List.length_nil, List.length_set, List.length_map, List.length_replicate, List.length_append, List.length_take, List.length_drop, Int.toNat_natCast] <;> omega) | fail) only [vi, vb, vstr, rxc, rxo, Nat.reduceLeDiff, List.getElem?_cons_zero, List.getElem?_cons_succ, List.length_cons, List.length_nil, List.set_cons_zero, List.set_cons_succ, ↓reduceIte, Bool.not_true, Bool.not_false, true_and, and_true, not_true_eq_false, not_false_eq_true, decide_true, decide_false, Nat.reduceEqDiff, Nat.reduceAdd, Nat.reduceMul, Nat.reducePow, Int.reduceToNat, Int.reducePow, Nat.zero_add, Nat.mul_one, Int.toNat_natCast, R44_8]
      rw [decide_eq_true hab] at hk
      exact hk

/-! ### Rows of rows -/
structure Rows (h : Heap) (S : Nat → Prop) (v : Value) (us : List Value) (ls : List (List Int)) : Prop where
  sl : SlV h v us
  len : us.length = ls.length
  row : ∀ i : Nat, i < ls.length → SlV h (us.getD i undef) ((ls.getD i []).map (.int .i64))
  foot : ∀ i : Nat, i < ls.length → S (bno (us.getD i undef))
theorem Rows.grow {h h' : Heap} {S : Nat → Prop} {v : Value} {us : List Value} {ls : List (List Int)} (hr : Rows h S v us ls) (g : Grow h h') : Rows h' S v us ls :=
  ⟨hr.sl.grow g, hr.len, fun i hi => (hr.row i hi).grow g, hr.foot⟩
theorem Rows.keep {h h' : Heap} {S : Nat → Prop} {v : Value} {us : List Value} {ls : List (List Int)} (hr : Rows h S v us ls) (hn : h.next ≤ h'.next) (hv : bno v ≠ 0 → h'.at (bno v) = h.at (bno v)) (hf : ∀ b, b < h.next → b ≠ 0 → S b → h'.at b = h.at b) : Rows h' S v us ls :=
  ⟨hr.sl.keep hn hv, hr.len, fun i hi => (hr.row i hi).keep hn (fun h0 => hf _ (hr.row i hi).1 h0 (hr.foot i hi)), hr.foot⟩
theorem Rows.mono {h : Heap} {S S' : Nat → Prop} {v : Value} {us : List Value} {ls : List (List Int)} (hr : Rows h S v us ls) (hS : ∀ b, S b → S' b) : Rows h S' v us ls := ⟨hr.sl, hr.len, hr.row, fun i hi => hS _ (hr.foot i hi)⟩

theorem SlV.isSl {h : Heap} {v : Value} {vs : List Value} (hs : SlV h v vs) : isAggV v = false := by
  obtain ⟨_, ⟨rfl, _⟩ | ⟨b, off, sp, c, cs, e, rw', rfl, _⟩⟩ := hs <;> rfl
theorem slR_sl {k : IntKind} {e : TypeId} {H : Heap} {v : Value} {l : List Int} (h1 : 1 ≤ H.next) (h : slR e (intR k) H [v] l) : SlV H v (l.map (.int k)) ∧ ∀ x ∈ l, k.min ≤ x ∧ x ≤ k.max := by
  obtain ⟨⟨h2, rfl⟩ | ⟨b, cap, h2, h3, h4, h5, h6⟩, hr⟩ := slR_int h
  · cases h2; exact ⟨⟨by show 0 < _; omega, .inl ⟨rfl, rfl⟩⟩, hr⟩
  · cases h2; exact ⟨⟨h5, .inr ⟨b, 0, some 0, cap, _, _, _, by simp, h4, h6, by simp, fun i _ => by simp⟩⟩, hr⟩
theorem RL_one {α : Type} {R : Repr α} {H : Heap} (hR : ∀ cs x, R H cs x → cs.length = 1) : ∀ {css : List (List Value)} {xs : List α}, RL R H css xs → css.flatten.length = xs.length ∧ ∀ i x, xs[i]? = some x → R H [css.flatten.getD i undef] x
  | [], [], _ => ⟨rfl, fun i x h => by simp at h⟩
  | c :: css, x :: xs, h => by
    obtain ⟨g1, g2⟩ := RL_one hR h.2
    have hc := hR _ _ h.1
    obtain ⟨u, rfl⟩ := List.length_eq_one_iff.1 hc
    refine ⟨by simp [g1], fun i y hy => ?_⟩
    cases i with
    | zero => simp at hy; subst hy; simpa using h.1
    | succ i => simp at hy; simpa using g2 i y hy
  | [], _ :: _, h => h.elim
  | _ :: _, [], h => h.elim
theorem slR_rows {e1 e2 : TypeId} {H : Heap} {v : Value} {ls : List (List Int)} (h1 : 1 ≤ H.next) (h : slR e1 (slR e2 (intR .i64)) H [v] ls) : ∃ us, Rows H (· < H.next) v us ls := by
  rcases h with ⟨h2, rfl⟩ | ⟨b, cap, css, h2, h3, h4, h5, h6, h7⟩
  · cases h2
    exact ⟨[], ⟨by show 0 < _; omega, .inl ⟨rfl, rfl⟩⟩, rfl, fun i hi => by simp at hi, fun i hi => by simp at hi⟩
  · cases h2
    obtain ⟨g1, g2⟩ := RL_one (fun cs x hx => by rcases hx with ⟨rfl, _⟩ | ⟨_, _, _, rfl, _⟩ <;> rfl) h7
    have key : ∀ i : Nat, i < ls.length → SlV H (css.flatten.getD i undef) ((ls.getD i []).map (.int .i64)) := fun i hi => by
      have := g2 i ls[i] (by simp [hi])
      rw [List.getD_eq_getElem?_getD (l := ls), List.getElem?_eq_getElem hi]
      exact (slR_sl h1 this).1
    exact ⟨css.flatten, ⟨h5, .inr ⟨b, 0, some 0, cap, _, _, _, by rw [g1], h4, h6, by simp, fun i _ => by simp⟩⟩, g1, key, fun i hi => (key i hi).1⟩

/-! ### Automata without choice -/
structure DfaD where
  start : Int
  cls : List Int
  next : List (List Int)
  rule : List Int
def dfaC (s : Int) (cls : List Int) (vn vr : Value) : List Value := .int .i64 s :: (cls.map (.int .u8) ++ [vn, vr])
section
variable {s : Int} {cls : List Int} {vn vr : Value}
theorem dfaC_len (hc : cls.length = 256) : (dfaC s cls vn vr).length = 259 := by simp [dfaC, hc]
theorem dfaC_0 : (dfaC s cls vn vr)[0]? = some (.int .i64 s) := rfl
theorem dfaC_257 (hc : cls.length = 256) : (dfaC s cls vn vr)[257]? = some vn := by
  show (cls.map (Value.int .u8) ++ [vn, vr])[256]? = some vn
  rw [List.getElem?_append_right (by simp [hc])]; simp [hc]
theorem dfaC_258 (hc : cls.length = 256) : (dfaC s cls vn vr)[258]? = some vr := by
  show (cls.map (Value.int .u8) ++ [vn, vr])[257]? = some vr
  rw [List.getElem?_append_right (by simp [hc])]; simp [hc]
theorem dfaC_cls (hc : cls.length = 256) {i : Nat} (hi : i < 256) : (dfaC s cls vn vr)[1 + i]? = some (.int .u8 (cls.getD i 0)) := by
  rw [Nat.add_comm]
  show (cls.map (Value.int .u8) ++ [vn, vr])[i]? = _
  rw [List.getElem?_append_left (by simp [hc, hi]), ints_get (by omega)]
end
/-- A value that holds an automaton. -/
structure DfaV (h : Heap) (S : Nat → Prop) (v vn vr : Value) (us : List Value) (d : DfaD) : Prop where
  val : v = .agg ⟨dfaC d.start d.cls vn vr⟩
  cls : d.cls.length = 256
  byte : ∀ i : Nat, i < 256 → 0 ≤ d.cls.getD i 0 ∧ d.cls.getD i 0 < 256
  next : Rows h S vn us d.next
  rule : SlV h vr (d.rule.map (.int .i64))
  footn : S (bno vn)
  footr : S (bno vr)
  size : d.next.length < 4294967296 ∧ d.rule.length < 4294967296 ∧ ∀ i : Nat, i < d.next.length → (d.next.getD i []).length < 4294967296
theorem DfaV.grow {h h' : Heap} {S : Nat → Prop} {v vn vr : Value} {us : List Value} {d : DfaD} (hd : DfaV h S v vn vr us d) (g : Grow h h') : DfaV h' S v vn vr us d :=
  ⟨hd.val, hd.cls, hd.byte, hd.next.grow g, hd.rule.grow g, hd.footn, hd.footr, hd.size⟩
theorem DfaV.keep {h h' : Heap} {S : Nat → Prop} {v vn vr : Value} {us : List Value} {d : DfaD} (hd : DfaV h S v vn vr us d) (hn : h.next ≤ h'.next) (hf : ∀ b, b < h.next → b ≠ 0 → S b → h'.at b = h.at b) : DfaV h' S v vn vr us d :=
  ⟨hd.val, hd.cls, hd.byte, hd.next.keep hn (fun h0 => hf _ hd.next.sl.1 h0 hd.footn) hf, hd.rule.keep hn (fun h0 => hf _ hd.rule.1 h0 hd.footr), hd.footn, hd.footr, hd.size⟩

/-- A box for a parameter. -/
theorem boxed (h : Heap) (cs : List Value) (t : TypeId) : ∃ h1, h.new (.cells cs t true) = h1 ∧ Grow h h1 ∧ h1.next = h.next + 1 ∧ h1.at h.next = some (.cells cs t true) := ⟨_, rfl, (Grow.refl h).new, rfl, at_new_same⟩

theorem dfaBig_ok (hO : M.O 15 = none) (hF : M.F 15 = some A15) {v vn vr : Value} {us : List Value} {S : Nat → Prop} {d : DfaD} {n : Int} {h : Heap} {K : KF} (hd : DfaV h S v vn vr us d) (hn : 0 ≤ n) (hn1 : n < 1000000)
  (hk : ∀ b h', Grow h h' → K (.bool b) h') : WF M 15 [v, .int .i64 n] h K := by
  rw [WF_eqT 7 hO hF, hd.val]
  simp (maxSteps := 2000000) (disch := first | omega | assumption | (simp only [oneC_int, oneC_bool, oneC_str, oneC_ptr, oneC_sl, oneC_map]; done) | (simp only [List.length_cons, List.length_nil, List.length_set, List.length_map, List.length_replicate, List.length_append, List.length_take, List.length_drop, Int.toNat_natCast] <;> omega) | fail) only [vi, vb, vstr, rxc, rxo, Nat.reduceLeDiff, List.getElem?_cons_zero, List.getElem?_cons_succ, List.length_cons, List.length_nil, List.set_cons_zero, List.set_cons_succ, ↓reduceIte, Bool.not_true, Bool.not_false, true_and, and_true, not_true_eq_false, not_false_eq_true, decide_true, decide_false, Nat.reduceEqDiff, Nat.reduceAdd, Nat.reduceMul, Nat.reducePow, Int.reduceToNat, Int.reducePow, Nat.zero_add, Nat.mul_one, Int.toNat_natCast, A15, R15_0, dfaC_len hd.cls]
  obtain ⟨h1, e1, g1, n1, b1⟩ := boxed h (dfaC d.start d.cls vn vr) 34
  rw [e1]
  have d1 := hd.grow g1
  have r := d1.next.sl.r
  have q := d1.rule.r
  have hl := d1.next.len
  obtain ⟨z1, z2, z3⟩ := hd.size
  simp only [List.length_map, hl] at r q
  simp (maxSteps := 2000000) (disch := first | omega | assumption | (simp only [oneC_int, oneC_bool, oneC_str, oneC_ptr, oneC_sl, oneC_map]; done) | (simp only [List.length_cons, List.length_nil, List.length_set, List.length_map, List.length_replicate, List.length_append, List.length_take, List.length_drop, Int.toNat_natCast] <;> omega) | fail) only [vi, vb, vstr, rxc, rxo, Nat.reduceLeDiff, List.getElem?_cons_zero, List.getElem?_cons_succ, List.length_cons, List.length_nil, List.set_cons_zero, List.set_cons_succ, ↓reduceIte, Bool.not_true, Bool.not_false, true_and, and_true, not_true_eq_false, not_false_eq_true, decide_true, decide_false, Nat.reduceEqDiff, Nat.reduceAdd, Nat.reduceMul, Nat.reducePow, Int.reduceToNat, Int.reducePow, Nat.zero_add, Nat.mul_one, Int.toNat_natCast, R15_1, b1, dfaC_257 hd.cls, dfaC_258 hd.cls, r, q, R15_2]
  refine WC_bloop 7 (fun m e h' => ∃ (i x : Int), m = (d.next.length - i).toNat ∧ 0 ≤ i ∧ 0 ≤ x ∧ x ≤ 8000000 ∧ e.g 1 = .int .i64 n ∧ e.g 2 = .pointer (some ⟨h.next, 0, none⟩) ∧ e.g 5 = .int .i64 x ∧ e.g 6 = .int .i64 i ∧ h' = h1)
    (fun e h' => ∃ x, e.g 1 = .int .i64 n ∧ e.g 5 = .int .i64 x ∧ h' = h1) ?_ ?_ ?_
  · refine ⟨_, 0, min (↑d.next.length) (n + 1) + min (↑d.rule.length) (n + 1), rfl, by omega, by omega, by omega, ?_, ?_, ?_, ?_, rfl⟩
    all_goals simp (maxSteps := 2000000) (disch := first | omega | assumption | (simp only [oneC_int, oneC_bool, oneC_str, oneC_ptr, oneC_sl, oneC_map]; done) | (simp only [List.length_cons, List.length_nil, List.length_set, List.length_map, List.length_replicate, List.length_append, List.length_take, List.length_drop, Int.toNat_natCast] <;> omega) | fail) only [vi, vb, vstr, rxc, rxo, Nat.reduceLeDiff, List.getElem?_cons_zero, List.getElem?_cons_succ, List.length_cons, List.length_nil, List.set_cons_zero, List.set_cons_succ, ↓reduceIte, Bool.not_true, Bool.not_false, true_and, and_true, not_true_eq_false, not_false_eq_true, decide_true, decide_false, Nat.reduceEqDiff, Nat.reduceAdd, Nat.reduceMul, Nat.reducePow, Int.reduceToNat, Int.reducePow, Nat.zero_add, Nat.mul_one, Int.toNat_natCast]
  · rintro m e h' ⟨i, x, rfl, hi, hx, hx1, e1', e2, e5, e6, rfl⟩
    simp (maxSteps := 2000000) (disch := first | omega | assumption | (simp only [oneC_int, oneC_bool, oneC_str, oneC_ptr, oneC_sl, oneC_map]; done) | (simp only [List.length_cons, List.length_nil, List.length_set, List.length_map, List.length_replicate, List.length_append, List.length_take, List.length_drop, Int.toNat_natCast] <;> omega) | fail) only [vi, vb, vstr, rxc, rxo, Nat.reduceLeDiff, List.getElem?_cons_zero, List.getElem?_cons_succ, List.length_cons, List.length_nil, List.set_cons_zero, List.set_cons_succ, ↓reduceIte, Bool.not_true, Bool.not_false, true_and, and_true, not_true_eq_false, not_false_eq_true, decide_true, decide_false, Nat.reduceEqDiff, Nat.reduceAdd, Nat.reduceMul, Nat.reducePow, Int.reduceToNat, Int.reducePow, Nat.zero_add, Nat.mul_one, Int.toNat_natCast, B15_0, R15_3, e1', e2, e5, e6, b1, dfaC_257 hd.cls, r]
    refine WG_dec (fun hc => ?_) (fun hc => ?_)
    · simp (maxSteps := 2000000) (disch := first | omega | assumption | (simp only [oneC_int, oneC_bool, oneC_str, oneC_ptr, oneC_sl, oneC_map]; done) | (simp only [List.length_cons, List.length_nil, List.length_set, List.length_map, List.length_replicate, List.length_append, List.length_take, List.length_drop, Int.toNat_natCast] <;> omega) | fail) only [vi, vb, vstr, rxc, rxo, Nat.reduceLeDiff, List.getElem?_cons_zero, List.getElem?_cons_succ, List.length_cons, List.length_nil, List.set_cons_zero, List.set_cons_succ, ↓reduceIte, Bool.not_true, Bool.not_false, true_and, and_true, not_true_eq_false, not_false_eq_true, decide_true, decide_false, Nat.reduceEqDiff, Nat.reduceAdd, Nat.reduceMul, Nat.reducePow, Int.reduceToNat, Int.reducePow, Nat.zero_add, Nat.mul_one, Int.toNat_natCast, e1', e2, e5, e6]
      refine WCond_dec (fun hx2 => ?_) (fun hx2 => ?_)
      · have hrow := (d1.next.row i.toNat (by omega)).r
        simp only [List.length_map] at hrow
        have hz := z3 i.toNat (by omega)
        simp (maxSteps := 2000000) (disch := first | omega | assumption | (simp only [oneC_int, oneC_bool, oneC_str, oneC_ptr, oneC_sl, oneC_map]; done) | (simp only [List.length_cons, List.length_nil, List.length_set, List.length_map, List.length_replicate, List.length_append, List.length_take, List.length_drop, Int.toNat_natCast] <;> omega) | fail) only [vi, vb, vstr, rxc, rxo, Nat.reduceLeDiff, List.getElem?_cons_zero, List.getElem?_cons_succ, List.length_cons, List.length_nil, List.set_cons_zero, List.set_cons_succ, ↓reduceIte, Bool.not_true, Bool.not_false, true_and, and_true, not_true_eq_false, not_false_eq_true, decide_true, decide_false, Nat.reduceEqDiff, Nat.reduceAdd, Nat.reduceMul, Nat.reducePow, Int.reduceToNat, Int.reducePow, Nat.zero_add, Nat.mul_one, Int.toNat_natCast, R15_4, e1', e2, e5, e6, b1, dfaC_257 hd.cls, r, vals_get, hrow, R15_5]
        exact ⟨_, by omega, i + 1, _, rfl, by omega, by omega, by omega, rfl, rfl⟩
      · simp (maxSteps := 2000000) (disch := first | omega | assumption | (simp only [oneC_int, oneC_bool, oneC_str, oneC_ptr, oneC_sl, oneC_map]; done) | (simp only [List.length_cons, List.length_nil, List.length_set, List.length_map, List.length_replicate, List.length_append, List.length_take, List.length_drop, Int.toNat_natCast] <;> omega) | fail) only [vi, vb, vstr, rxc, rxo, Nat.reduceLeDiff, List.getElem?_cons_zero, List.getElem?_cons_succ, List.length_cons, List.length_nil, List.set_cons_zero, List.set_cons_succ, ↓reduceIte, Bool.not_true, Bool.not_false, true_and, and_true, not_true_eq_false, not_false_eq_true, decide_true, decide_false, Nat.reduceEqDiff, Nat.reduceAdd, Nat.reduceMul, Nat.reducePow, Int.reduceToNat, Int.reducePow, Nat.zero_add, Nat.mul_one, Int.toNat_natCast, e1', e5]
        exact ⟨x, rfl⟩
    · simp (maxSteps := 2000000) (disch := first | omega | assumption | (simp only [oneC_int, oneC_bool, oneC_str, oneC_ptr, oneC_sl, oneC_map]; done) | (simp only [List.length_cons, List.length_nil, List.length_set, List.length_map, List.length_replicate, List.length_append, List.length_take, List.length_drop, Int.toNat_natCast] <;> omega) | fail) only [vi, vb, vstr, rxc, rxo, Nat.reduceLeDiff, List.getElem?_cons_zero, List.getElem?_cons_succ, List.length_cons, List.length_nil, List.set_cons_zero, List.set_cons_succ, ↓reduceIte, Bool.not_true, Bool.not_false, true_and, and_true, not_true_eq_false, not_false_eq_true, decide_true, decide_false, Nat.reduceEqDiff, Nat.reduceAdd, Nat.reduceMul, Nat.reducePow, Int.reduceToNat, Int.reducePow, Nat.zero_add, Nat.mul_one, Int.toNat_natCast, e1', e5]
      exact ⟨x, rfl⟩
  · rintro e h' ⟨x, e1', e5, rfl⟩
    simp (maxSteps := 2000000) (disch := first | omega | assumption | (simp only [oneC_int, oneC_bool, oneC_str, oneC_ptr, oneC_sl, oneC_map]; done) | (simp only [List.length_cons, List.length_nil, List.length_set, List.length_map, List.length_replicate, List.length_append, List.length_take, List.length_drop, Int.toNat_natCast] <;> omega) | fail) only [vi, vb, vstr, rxc, rxo, Nat.reduceLeDiff, List.getElem?_cons_zero, List.getElem?_cons_succ, List.length_cons, List.length_nil, List.set_cons_zero, List.set_cons_succ, ↓reduceIte, Bool.not_true, Bool.not_false, true_and, and_true, not_true_eq_false, not_false_eq_true, decide_true, decide_false, Nat.reduceEqDiff, Nat.reduceAdd, Nat.reduceMul, Nat.reducePow, Int.reduceToNat, Int.reducePow, Nat.zero_add, Nat.mul_one, Int.toNat_natCast, R15_6, e1', e5]
    exact hk _ _ g1
end Go.Rx

namespace Go.Rx
variable {M : Mach}
set_option maxRecDepth 4000
set_option linter.unusedSimpArgs false
set_option linter.unusedVariables false

structure Dok (d : DfaD) : Prop where
  some : 1 ≤ d.next.length
  few : d.next.length ≤ 2048
  rules : d.rule.length = d.next.length
  start0 : 0 ≤ d.start
  start1 : d.start < d.next.length
  wide : (d.next.getD 0 []).length ≤ 256
  cls : maxI d.cls < (d.next.getD 0 []).length
  rows : ∀ i : Nat, i < d.next.length → (d.next.getD i []).length = (d.next.getD 0 []).length ∧ maxI (d.next.getD i []) < d.next.length ∧ d.rule.getD i 0 < 48

theorem foldl_max_le : ∀ (l : List Int) (x : Int), x ≤ l.foldl max x ∧ ∀ y ∈ l, y ≤ l.foldl max x
  | [], x => ⟨Int.le_refl _, fun y h => by simp at h⟩
  | z :: l, x => by
    obtain ⟨h1, h2⟩ := foldl_max_le l (max x z)
    refine ⟨by simp only [List.foldl_cons]; omega, fun y hy => ?_⟩
    simp only [List.foldl_cons]
    rcases List.mem_cons.1 hy with rfl | hy
    · omega
    · exact h2 y hy
theorem le_maxI {l : List Int} {x : Int} (h : x ∈ l) : x ≤ maxI l := by
  cases l with
  | nil => simp at h
  | cons z l =>
    obtain ⟨h1, h2⟩ := foldl_max_le l z
    rcases List.mem_cons.1 h with rfl | h
    · exact h1
    · exact h2 x h
theorem getD_mem {l : List Int} {i : Nat} (h : i < l.length) : l.getD i 0 ∈ l := by
  rw [List.getD_eq_getElem?_getD, List.getElem?_eq_getElem h]; exact List.getElem_mem h
theorem foldl_max_mem : ∀ (l : List Int) (x : Int), l.foldl max x = x ∨ l.foldl max x ∈ l
  | [], x => .inl rfl
  | z :: l, x => by
    simp only [List.foldl_cons, List.mem_cons]
    rcases foldl_max_mem l (max x z) with h | h
    · rw [h]; omega
    · exact .inr (.inr h)
theorem maxI_mem {l : List Int} (h : l ≠ []) : maxI l ∈ l := by
  cases l with
  | nil => exact absurd rfl h
  | cons z l =>
    rcases foldl_max_mem l z with h | h
    · show l.foldl max z ∈ _; rw [h]; simp
    · exact List.mem_cons_of_mem _ h
theorem maxI_lt {l : List Int} {k : Int} (h : l ≠ []) : maxI l < k ↔ ∀ i : Nat, i < l.length → l.getD i 0 < k := by
  constructor
  · intro hm i hi
    have := le_maxI (getD_mem hi); omega
  · intro hh
    obtain ⟨i, hi⟩ := mem_get (maxI_mem h)
    have hil := (List.getElem?_eq_some_iff.1 hi).1
    have := hh i hil
    rw [List.getD_eq_getElem?_getD, hi] at this
    exact this

theorem clsV {h : Heap} {b : Nat} {s : Int} {cls : List Int} {vn vr : Value} {t : TypeId} {rw' : Bool} (hb : h.at b = some (.cells (dfaC s cls vn vr) t rw')) (hc : cls.length = 256) (h1 : 1 ≤ b) (h2 : b < h.next) :
    SlV h (.slice (some ⟨b, 1, some 0⟩) 256 256) (cls.map (.int .u8)) :=
  ⟨h2, .inr ⟨b, 1, some 0, 256, _, _, _, by simp [hc], h1, hb, by rw [dfaC_len hc]; simp [hc], fun i hi => by
    simp [hc] at hi
    rw [dfaC_cls hc hi, ints_get (by omega)]⟩⟩
theorem sla_all {n sz : Nat} {a : Addr} : sliceA n sz (.pointer (some a)) none none none = some (.slice (some ⟨a.block, a.off, some 0⟩) n n) := by
  unfold sliceA
  simp [bounds, bound_none, ble_t]

theorem dfaCheck_ok (hO40 : M.O 40 = none) (hF40 : M.F 40 = some A40) (hO41 : M.O 41 = none) (hF41 : M.F 41 = some A41) (hO : M.O 16 = none) (hF : M.F 16 = some A16) {v vn vr : Value} {us : List Value} {S : Nat → Prop} {d : DfaD} {h : Heap} {K : KF} (h1n : 1 ≤ h.next) (hd : DfaV h S v vn vr us d)
  (hk : ∀ r h', Grow h h' → (r = 0 ↔ Dok d) → K (.int .i64 r) h') : WF M 16 [v] h K := by
  rw [WF_eqT 9 hO hF, hd.val]
  simp (maxSteps := 2000000) (disch := first | omega | assumption | (simp only [oneC_int, oneC_bool, oneC_str, oneC_ptr, oneC_sl, oneC_map]; done) | (simp only [List.length_cons, List.length_nil, List.length_set, List.length_map, List.length_replicate, List.length_append, List.length_take, List.length_drop, Int.toNat_natCast] <;> omega) | fail) only [vi, vb, vstr, rxc, rxo, Nat.reduceLeDiff, List.getElem?_cons_zero, List.getElem?_cons_succ, List.length_cons, List.length_nil, List.set_cons_zero, List.set_cons_succ, ↓reduceIte, Bool.not_true, Bool.not_false, true_and, and_true, not_true_eq_false, not_false_eq_true, decide_true, decide_false, Nat.reduceEqDiff, Nat.reduceAdd, Nat.reduceMul, Nat.reducePow, Int.reduceToNat, Int.reducePow, Nat.zero_add, Nat.mul_one, Int.toNat_natCast, A16, R16_0, dfaC_len hd.cls]
  obtain ⟨h1, e1, g1, n1, b1⟩ := boxed h (dfaC d.start d.cls vn vr) 34
  rw [e1]
  have d1 := hd.grow g1
  have r := d1.next.sl.r
  have q := d1.rule.r
  have hl := d1.next.len
  obtain ⟨z1, z2, z3⟩ := hd.size
  simp only [List.length_map, hl] at r q
  simp (maxSteps := 2000000) (disch := first | omega | assumption | (simp only [oneC_int, oneC_bool, oneC_str, oneC_ptr, oneC_sl, oneC_map]; done) | (simp only [List.length_cons, List.length_nil, List.length_set, List.length_map, List.length_replicate, List.length_append, List.length_take, List.length_drop, Int.toNat_natCast] <;> omega) | fail) only [vi, vb, vstr, rxc, rxo, Nat.reduceLeDiff, List.getElem?_cons_zero, List.getElem?_cons_succ, List.length_cons, List.length_nil, List.set_cons_zero, List.set_cons_succ, ↓reduceIte, Bool.not_true, Bool.not_false, true_and, and_true, not_true_eq_false, not_false_eq_true, decide_true, decide_false, Nat.reduceEqDiff, Nat.reduceAdd, Nat.reduceMul, Nat.reducePow, Int.reduceToNat, Int.reducePow, Nat.zero_add, Nat.mul_one, Int.toNat_natCast, R16_1, b1, dfaC_257 hd.cls, dfaC_258 hd.cls, r, q, R16_2]
  refine WCond_dec (fun hc => ?_) (fun hc => ?_)
  · simp (maxSteps := 2000000) (disch := first | omega | assumption | (simp only [oneC_int, oneC_bool, oneC_str, oneC_ptr, oneC_sl, oneC_map]; done) | (simp only [List.length_cons, List.length_nil, List.length_set, List.length_map, List.length_replicate, List.length_append, List.length_take, List.length_drop, Int.toNat_natCast] <;> omega) | fail) only [vi, vb, vstr, rxc, rxo, Nat.reduceLeDiff, List.getElem?_cons_zero, List.getElem?_cons_succ, List.length_cons, List.length_nil, List.set_cons_zero, List.set_cons_succ, ↓reduceIte, Bool.not_true, Bool.not_false, true_and, and_true, not_true_eq_false, not_false_eq_true, decide_true, decide_false, Nat.reduceEqDiff, Nat.reduceAdd, Nat.reduceMul, Nat.reducePow, Int.reduceToNat, Int.reducePow, Nat.zero_add, Nat.mul_one, Int.toNat_natCast, R16_3]
    exact hk 3 _ g1 ⟨fun h => by omega, fun h => by have := h.few; have := h.rules; omega⟩
  simp (maxSteps := 2000000) (disch := first | omega | assumption | (simp only [oneC_int, oneC_bool, oneC_str, oneC_ptr, oneC_sl, oneC_map]; done) | (simp only [List.length_cons, List.length_nil, List.length_set, List.length_map, List.length_replicate, List.length_append, List.length_take, List.length_drop, Int.toNat_natCast] <;> omega) | fail) only [vi, vb, vstr, rxc, rxo, Nat.reduceLeDiff, List.getElem?_cons_zero, List.getElem?_cons_succ, List.length_cons, List.length_nil, List.set_cons_zero, List.set_cons_succ, ↓reduceIte, Bool.not_true, Bool.not_false, true_and, and_true, not_true_eq_false, not_false_eq_true, decide_true, decide_false, Nat.reduceEqDiff, Nat.reduceAdd, Nat.reduceMul, Nat.reducePow, Int.reduceToNat, Int.reducePow, Nat.zero_add, Nat.mul_one, Int.toNat_natCast, R16_4, b1, dfaC_0, dfaC_257 hd.cls, dfaC_258 hd.cls, r, q]
  by_cases hA : (d.next.length : Int) = 0 ∨ d.rule.length ≠ d.next.length ∨ d.start < 0 ∨ d.start ≥ d.next.length
  · have hnd : ¬ Dok d := fun h => by have := h.some; have := h.rules; have := h.start0; have := h.start1; omega
    repeat' first
      | refine WG_dec (fun hc => ?_) (fun hc => ?_)
      | refine WCond_dec (fun hc => ?_) (fun hc => ?_)
      | simp (maxSteps := 2000000) (disch := first | omega | assumption | (simp only [oneC_int, oneC_bool, oneC_str, oneC_ptr, oneC_sl, oneC_map]; done) | (simp only [List.length_cons, List.length_nil, List.length_set, List.length_map, List.length_replicate, List.length_append, List.length_take, List.length_drop, Int.toNat_natCast] <;> omega) | fail) only [vi, vb, vstr, rxc, rxo, Nat.reduceLeDiff, List.getElem?_cons_zero, List.getElem?_cons_succ, List.length_cons, List.length_nil, List.set_cons_zero, List.set_cons_succ, ↓reduceIte, Bool.not_true, Bool.not_false, true_and, and_true, not_true_eq_false, not_false_eq_true, decide_true, decide_false, Nat.reduceEqDiff, Nat.reduceAdd, Nat.reduceMul, Nat.reducePow, Int.reduceToNat, Int.reducePow, Nat.zero_add, Nat.mul_one, Int.toNat_natCast, R16_5, b1, dfaC_0, dfaC_257 hd.cls, dfaC_258 hd.cls, r, q]
    all_goals first
      | (exfalso; omega)
      | exact hk 2 _ g1 ⟨fun h => by omega, fun h => absurd h hnd⟩
  · have hA1 : ¬ (d.next.length : Int) = 0 := by omega
    have hA2 : (d.rule.length : Int) = d.next.length := by omega
    have hA3 : ¬ d.start < 0 := by omega
    have hA4 : ¬ (d.next.length : Int) ≤ d.start := by omega
    have hrow0 := (d1.next.row 0 (by omega)).r
    simp only [List.length_map] at hrow0
    have hcm := clsV b1 hd.cls h1n (by omega)
    simp (maxSteps := 2000000) (disch := first | omega | assumption | (simp only [oneC_int, oneC_bool, oneC_str, oneC_ptr, oneC_sl, oneC_map]; done) | (simp only [List.length_cons, List.length_nil, List.length_set, List.length_map, List.length_replicate, List.length_append, List.length_take, List.length_drop, Int.toNat_natCast] <;> omega) | fail) only [vi, vb, vstr, rxc, rxo, Nat.reduceLeDiff, List.getElem?_cons_zero, List.getElem?_cons_succ, List.length_cons, List.length_nil, List.set_cons_zero, List.set_cons_succ, ↓reduceIte, Bool.not_true, Bool.not_false, true_and, and_true, not_true_eq_false, not_false_eq_true, decide_true, decide_false, Nat.reduceEqDiff, Nat.reduceAdd, Nat.reduceMul, Nat.reducePow, Int.reduceToNat, Int.reducePow, Nat.zero_add, Nat.mul_one, Int.toNat_natCast, b1, dfaC_0, dfaC_257 hd.cls, dfaC_258 hd.cls, r, q, hA1, hA2, hA3, hA4, R16_6, vals_get, hrow0, Int.toNat_zero, R16_7]
    refine WG_dec (fun hw => ?_) (fun hw => ?_)
    · simp (maxSteps := 2000000) (disch := first | omega | assumption | (simp only [oneC_int, oneC_bool, oneC_str, oneC_ptr, oneC_sl, oneC_map]; done) | (simp only [List.length_cons, List.length_nil, List.length_set, List.length_map, List.length_replicate, List.length_append, List.length_take, List.length_drop, Int.toNat_natCast] <;> omega) | fail) only [vi, vb, vstr, rxc, rxo, Nat.reduceLeDiff, List.getElem?_cons_zero, List.getElem?_cons_succ, List.length_cons, List.length_nil, List.set_cons_zero, List.set_cons_succ, ↓reduceIte, Bool.not_true, Bool.not_false, true_and, and_true, not_true_eq_false, not_false_eq_true, decide_true, decide_false, Nat.reduceEqDiff, Nat.reduceAdd, Nat.reduceMul, Nat.reducePow, Int.reduceToNat, Int.reducePow, Nat.zero_add, Nat.mul_one, Int.toNat_natCast, b1, sla_all]
      refine max8_ok hO40 hF40 hcm (by rw [hd.cls]; omega) (by rw [hd.cls]; omega) ?_
      have hcb : 0 ≤ maxI d.cls ∧ maxI d.cls < 256 := by
        obtain ⟨i, hi⟩ := mem_get (maxI_mem (l := d.cls) (fun he => by have := hd.cls; rw [he] at this; simp at this))
        have hil := (List.getElem?_eq_some_iff.1 hi).1
        have := hd.byte i (by rw [hd.cls] at hil; exact hil)
        rw [List.getD_eq_getElem?_getD, hi] at this
        exact this
      simp (maxSteps := 2000000) (disch := first | omega | assumption | (simp only [oneC_int, oneC_bool, oneC_str, oneC_ptr, oneC_sl, oneC_map]; done) | (simp only [List.length_cons, List.length_nil, List.length_set, List.length_map, List.length_replicate, List.length_append, List.length_take, List.length_drop, Int.toNat_natCast] <;> omega) | fail) only [vi, vb, vstr, rxc, rxo, Nat.reduceLeDiff, List.getElem?_cons_zero, List.getElem?_cons_succ, List.length_cons, List.length_nil, List.set_cons_zero, List.set_cons_succ, ↓reduceIte, Bool.not_true, Bool.not_false, true_and, and_true, not_true_eq_false, not_false_eq_true, decide_true, decide_false, Nat.reduceEqDiff, Nat.reduceAdd, Nat.reduceMul, Nat.reducePow, Int.reduceToNat, Int.reducePow, Nat.zero_add, Nat.mul_one, Int.toNat_natCast, iConv_int]
      refine WCond_dec (fun hm => ?_) (fun hm => ?_)
      · simp (maxSteps := 2000000) (disch := first | omega | assumption | (simp only [oneC_int, oneC_bool, oneC_str, oneC_ptr, oneC_sl, oneC_map]; done) | (simp only [List.length_cons, List.length_nil, List.length_set, List.length_map, List.length_replicate, List.length_append, List.length_take, List.length_drop, Int.toNat_natCast] <;> omega) | fail) only [vi, vb, vstr, rxc, rxo, Nat.reduceLeDiff, List.getElem?_cons_zero, List.getElem?_cons_succ, List.length_cons, List.length_nil, List.set_cons_zero, List.set_cons_succ, ↓reduceIte, Bool.not_true, Bool.not_false, true_and, and_true, not_true_eq_false, not_false_eq_true, decide_true, decide_false, Nat.reduceEqDiff, Nat.reduceAdd, Nat.reduceMul, Nat.reducePow, Int.reduceToNat, Int.reducePow, Nat.zero_add, Nat.mul_one, Int.toNat_natCast, R16_8]
        exact hk 2 _ g1 ⟨fun h => by omega, fun h => by have := h.cls; omega⟩
      · simp (maxSteps := 2000000) (disch := first | omega | assumption | (simp only [oneC_int, oneC_bool, oneC_str, oneC_ptr, oneC_sl, oneC_map]; done) | (simp only [List.length_cons, List.length_nil, List.length_set, List.length_map, List.length_replicate, List.length_append, List.length_take, List.length_drop, Int.toNat_natCast] <;> omega) | fail) only [vi, vb, vstr, rxc, rxo, Nat.reduceLeDiff, List.getElem?_cons_zero, List.getElem?_cons_succ, List.length_cons, List.length_nil, List.set_cons_zero, List.set_cons_succ, ↓reduceIte, Bool.not_true, Bool.not_false, true_and, and_true, not_true_eq_false, not_false_eq_true, decide_true, decide_false, Nat.reduceEqDiff, Nat.reduceAdd, Nat.reduceMul, Nat.reducePow, Int.reduceToNat, Int.reducePow, Nat.zero_add, Nat.mul_one, Int.toNat_natCast, R16_9, b1, dfaC_257 hd.cls, r]
        refine WC_bloop 9 (fun m e h' => ∃ (i : Int), m = (d.next.length - i).toNat ∧ 0 ≤ i ∧ e.g 1 = .pointer (some ⟨h.next, 0, none⟩) ∧ e.g 3 = .int .i64 d.next.length ∧ e.g 4 = .int .i64 (d.next.getD 0 []).length ∧ e.g 52 = vn ∧ e.g 53 = .int .i64 d.next.length ∧ e.g 54 = .int .i64 i ∧ h' = h1 ∧
            ∀ j : Nat, (j : Int) < i → (d.next.getD j []).length = (d.next.getD 0 []).length ∧ maxI (d.next.getD j []) < d.next.length ∧ d.rule.getD j 0 < 48)
          (fun e h' => h' = h1 ∧ Dok d) ?_ ?_ ?_
        · refine ⟨_, 0, rfl, by omega, ?_, ?_, ?_, ?_, ?_, ?_, rfl, fun j hj => by omega⟩
          all_goals simp (maxSteps := 2000000) (disch := first | omega | assumption | (simp only [oneC_int, oneC_bool, oneC_str, oneC_ptr, oneC_sl, oneC_map]; done) | (simp only [List.length_cons, List.length_nil, List.length_set, List.length_map, List.length_replicate, List.length_append, List.length_take, List.length_drop, Int.toNat_natCast] <;> omega) | fail) only [vi, vb, vstr, rxc, rxo, Nat.reduceLeDiff, List.getElem?_cons_zero, List.getElem?_cons_succ, List.length_cons, List.length_nil, List.set_cons_zero, List.set_cons_succ, ↓reduceIte, Bool.not_true, Bool.not_false, true_and, and_true, not_true_eq_false, not_false_eq_true, decide_true, decide_false, Nat.reduceEqDiff, Nat.reduceAdd, Nat.reduceMul, Nat.reducePow, Int.reduceToNat, Int.reducePow, Nat.zero_add, Nat.mul_one, Int.toNat_natCast]
        · rintro m e h' ⟨i, rfl, hi, e1', e3, e4, e52, e53, e54, rfl, hall⟩
          simp (maxSteps := 2000000) (disch := first | omega | assumption | (simp only [oneC_int, oneC_bool, oneC_str, oneC_ptr, oneC_sl, oneC_map]; done) | (simp only [List.length_cons, List.length_nil, List.length_set, List.length_map, List.length_replicate, List.length_append, List.length_take, List.length_drop, Int.toNat_natCast] <;> omega) | fail) only [vi, vb, vstr, rxc, rxo, Nat.reduceLeDiff, List.getElem?_cons_zero, List.getElem?_cons_succ, List.length_cons, List.length_nil, List.set_cons_zero, List.set_cons_succ, ↓reduceIte, Bool.not_true, Bool.not_false, true_and, and_true, not_true_eq_false, not_false_eq_true, decide_true, decide_false, Nat.reduceEqDiff, Nat.reduceAdd, Nat.reduceMul, Nat.reducePow, Int.reduceToNat, Int.reducePow, Nat.zero_add, Nat.mul_one, Int.toNat_natCast, B16_0, R16_10, e1', e3, e4, e52, e53, e54]
          refine WCond_dec (fun hc2 => ?_) (fun hc2 => ?_)
          · have hrow := d1.next.row i.toNat (by omega)
            have hrr := hrow.r
            simp only [List.length_map] at hrr
            simp (maxSteps := 2000000) (disch := first | omega | assumption | (simp only [oneC_int, oneC_bool, oneC_str, oneC_ptr, oneC_sl, oneC_map]; done) | (simp only [List.length_cons, List.length_nil, List.length_set, List.length_map, List.length_replicate, List.length_append, List.length_take, List.length_drop, Int.toNat_natCast] <;> omega) | fail) only [vi, vb, vstr, rxc, rxo, Nat.reduceLeDiff, List.getElem?_cons_zero, List.getElem?_cons_succ, List.length_cons, List.length_nil, List.set_cons_zero, List.set_cons_succ, ↓reduceIte, Bool.not_true, Bool.not_false, true_and, and_true, not_true_eq_false, not_false_eq_true, decide_true, decide_false, Nat.reduceEqDiff, Nat.reduceAdd, Nat.reduceMul, Nat.reducePow, Int.reduceToNat, Int.reducePow, Nat.zero_add, Nat.mul_one, Int.toNat_natCast, R16_11, e1', e3, e4, e52, e53, e54, r, vals_get, R16_12, hrr]
            refine WG_dec (fun hx => ?_) (fun hx => ?_)
            · simp (maxSteps := 2000000) (disch := first | omega | assumption | (simp only [oneC_int, oneC_bool, oneC_str, oneC_ptr, oneC_sl, oneC_map]; done) | (simp only [List.length_cons, List.length_nil, List.length_set, List.length_map, List.length_replicate, List.length_append, List.length_take, List.length_drop, Int.toNat_natCast] <;> omega) | fail) only [vi, vb, vstr, rxc, rxo, Nat.reduceLeDiff, List.getElem?_cons_zero, List.getElem?_cons_succ, List.length_cons, List.length_nil, List.set_cons_zero, List.set_cons_succ, ↓reduceIte, Bool.not_true, Bool.not_false, true_and, and_true, not_true_eq_false, not_false_eq_true, decide_true, decide_false, Nat.reduceEqDiff, Nat.reduceAdd, Nat.reduceMul, Nat.reducePow, Int.reduceToNat, Int.reducePow, Nat.zero_add, Nat.mul_one, Int.toNat_natCast, e1', e3, e4, e52, e53, e54]
              have hle : (d.next.getD i.toNat []).length = (d.next.getD 0 []).length := by
                simp only [Decidable.not_not] at hx; omega
              refine max_ok hO41 hF41 hrow (by show 0 < (d.next.getD i.toNat []).length; omega) (by have := z3 i.toNat (by omega); omega) ?_
              simp (maxSteps := 2000000) (disch := first | omega | assumption | (simp only [oneC_int, oneC_bool, oneC_str, oneC_ptr, oneC_sl, oneC_map]; done) | (simp only [List.length_cons, List.length_nil, List.length_set, List.length_map, List.length_replicate, List.length_append, List.length_take, List.length_drop, Int.toNat_natCast] <;> omega) | fail) only [vi, vb, vstr, rxc, rxo, Nat.reduceLeDiff, List.getElem?_cons_zero, List.getElem?_cons_succ, List.length_cons, List.length_nil, List.set_cons_zero, List.set_cons_succ, ↓reduceIte, Bool.not_true, Bool.not_false, true_and, and_true, not_true_eq_false, not_false_eq_true, decide_true, decide_false, Nat.reduceEqDiff, Nat.reduceAdd, Nat.reduceMul, Nat.reducePow, Int.reduceToNat, Int.reducePow, Nat.zero_add, Nat.mul_one, Int.toNat_natCast, e1', e3, e4, e52, e53, e54]
              refine WG_dec (fun hy => ?_) (fun hy => ?_)
              · simp (maxSteps := 2000000) (disch := first | omega | assumption | (simp only [oneC_int, oneC_bool, oneC_str, oneC_ptr, oneC_sl, oneC_map]; done) | (simp only [List.length_cons, List.length_nil, List.length_set, List.length_map, List.length_replicate, List.length_append, List.length_take, List.length_drop, Int.toNat_natCast] <;> omega) | fail) only [vi, vb, vstr, rxc, rxo, Nat.reduceLeDiff, List.getElem?_cons_zero, List.getElem?_cons_succ, List.length_cons, List.length_nil, List.set_cons_zero, List.set_cons_succ, ↓reduceIte, Bool.not_true, Bool.not_false, true_and, and_true, not_true_eq_false, not_false_eq_true, decide_true, decide_false, Nat.reduceEqDiff, Nat.reduceAdd, Nat.reduceMul, Nat.reducePow, Int.reduceToNat, Int.reducePow, Nat.zero_add, Nat.mul_one, Int.toNat_natCast, e1', e3, e4, e52, e53, e54, b1, dfaC_258 hd.cls, q, ints_get]
                refine WCond_dec (fun hz => ?_) (fun hz => ?_)
                · simp (maxSteps := 2000000) (disch := first | omega | assumption | (simp only [oneC_int, oneC_bool, oneC_str, oneC_ptr, oneC_sl, oneC_map]; done) | (simp only [List.length_cons, List.length_nil, List.length_set, List.length_map, List.length_replicate, List.length_append, List.length_take, List.length_drop, Int.toNat_natCast] <;> omega) | fail) only [vi, vb, vstr, rxc, rxo, Nat.reduceLeDiff, List.getElem?_cons_zero, List.getElem?_cons_succ, List.length_cons, List.length_nil, List.set_cons_zero, List.set_cons_succ, ↓reduceIte, Bool.not_true, Bool.not_false, true_and, and_true, not_true_eq_false, not_false_eq_true, decide_true, decide_false, Nat.reduceEqDiff, Nat.reduceAdd, Nat.reduceMul, Nat.reducePow, Int.reduceToNat, Int.reducePow, Nat.zero_add, Nat.mul_one, Int.toNat_natCast, R16_13]
                  exact hk 2 _ g1 ⟨fun h => by omega, fun h => by have := (h.rows i.toNat (by omega)).2.2; omega⟩
                · simp (maxSteps := 2000000) (disch := first | omega | assumption | (simp only [oneC_int, oneC_bool, oneC_str, oneC_ptr, oneC_sl, oneC_map]; done) | (simp only [List.length_cons, List.length_nil, List.length_set, List.length_map, List.length_replicate, List.length_append, List.length_take, List.length_drop, Int.toNat_natCast] <;> omega) | fail) only [vi, vb, vstr, rxc, rxo, Nat.reduceLeDiff, List.getElem?_cons_zero, List.getElem?_cons_succ, List.length_cons, List.length_nil, List.set_cons_zero, List.set_cons_succ, ↓reduceIte, Bool.not_true, Bool.not_false, true_and, and_true, not_true_eq_false, not_false_eq_true, decide_true, decide_false, Nat.reduceEqDiff, Nat.reduceAdd, Nat.reduceMul, Nat.reducePow, Int.reduceToNat, Int.reducePow, Nat.zero_add, Nat.mul_one, Int.toNat_natCast, e1', e3, e4, e52, e53, e54, R16_14]
                  refine ⟨_, by omega, i + 1, rfl, by omega, rfl, fun j hj => ?_⟩
                  by_cases hji : (j : Int) < i
                  · exact hall j hji
                  · have : j = i.toNat := by omega
                    subst this
                    exact ⟨hle, by omega, by omega⟩
              · simp (maxSteps := 2000000) (disch := first | omega | assumption | (simp only [oneC_int, oneC_bool, oneC_str, oneC_ptr, oneC_sl, oneC_map]; done) | (simp only [List.length_cons, List.length_nil, List.length_set, List.length_map, List.length_replicate, List.length_append, List.length_take, List.length_drop, Int.toNat_natCast] <;> omega) | fail) only [vi, vb, vstr, rxc, rxo, Nat.reduceLeDiff, List.getElem?_cons_zero, List.getElem?_cons_succ, List.length_cons, List.length_nil, List.set_cons_zero, List.set_cons_succ, ↓reduceIte, Bool.not_true, Bool.not_false, true_and, and_true, not_true_eq_false, not_false_eq_true, decide_true, decide_false, Nat.reduceEqDiff, Nat.reduceAdd, Nat.reduceMul, Nat.reducePow, Int.reduceToNat, Int.reducePow, Nat.zero_add, Nat.mul_one, Int.toNat_natCast, R16_13]
                exact hk 2 _ g1 ⟨fun h => by omega, fun h => by have := (h.rows i.toNat (by omega)).2.1; omega⟩
            · simp (maxSteps := 2000000) (disch := first | omega | assumption | (simp only [oneC_int, oneC_bool, oneC_str, oneC_ptr, oneC_sl, oneC_map]; done) | (simp only [List.length_cons, List.length_nil, List.length_set, List.length_map, List.length_replicate, List.length_append, List.length_take, List.length_drop, Int.toNat_natCast] <;> omega) | fail) only [vi, vb, vstr, rxc, rxo, Nat.reduceLeDiff, List.getElem?_cons_zero, List.getElem?_cons_succ, List.length_cons, List.length_nil, List.set_cons_zero, List.set_cons_succ, ↓reduceIte, Bool.not_true, Bool.not_false, true_and, and_true, not_true_eq_false, not_false_eq_true, decide_true, decide_false, Nat.reduceEqDiff, Nat.reduceAdd, Nat.reduceMul, Nat.reducePow, Int.reduceToNat, Int.reducePow, Nat.zero_add, Nat.mul_one, Int.toNat_natCast, R16_13]
              exact hk 2 _ g1 ⟨fun h => by omega, fun h => by
                have h3 := (h.rows i.toNat (by omega)).1
                simp only [Decidable.not_not] at hx
                omega⟩
          · simp (maxSteps := 2000000) (disch := first | omega | assumption | (simp only [oneC_int, oneC_bool, oneC_str, oneC_ptr, oneC_sl, oneC_map]; done) | (simp only [List.length_cons, List.length_nil, List.length_set, List.length_map, List.length_replicate, List.length_append, List.length_take, List.length_drop, Int.toNat_natCast] <;> omega) | fail) only [vi, vb, vstr, rxc, rxo, Nat.reduceLeDiff, List.getElem?_cons_zero, List.getElem?_cons_succ, List.length_cons, List.length_nil, List.set_cons_zero, List.set_cons_succ, ↓reduceIte, Bool.not_true, Bool.not_false, true_and, and_true, not_true_eq_false, not_false_eq_true, decide_true, decide_false, Nat.reduceEqDiff, Nat.reduceAdd, Nat.reduceMul, Nat.reducePow, Int.reduceToNat, Int.reducePow, Nat.zero_add, Nat.mul_one, Int.toNat_natCast]
            exact ⟨by omega, by omega, by omega, by omega, by omega, by omega, by omega, fun j hj => hall j (by omega)⟩
        · rintro e h' ⟨rfl, hok⟩
          simp (maxSteps := 2000000) (disch := first | omega | assumption | (simp only [oneC_int, oneC_bool, oneC_str, oneC_ptr, oneC_sl, oneC_map]; done) | (simp only [List.length_cons, List.length_nil, List.length_set, List.length_map, List.length_replicate, List.length_append, List.length_take, List.length_drop, Int.toNat_natCast] <;> omega) | fail) only [vi, vb, vstr, rxc, rxo, Nat.reduceLeDiff, List.getElem?_cons_zero, List.getElem?_cons_succ, List.length_cons, List.length_nil, List.set_cons_zero, List.set_cons_succ, ↓reduceIte, Bool.not_true, Bool.not_false, true_and, and_true, not_true_eq_false, not_false_eq_true, decide_true, decide_false, Nat.reduceEqDiff, Nat.reduceAdd, Nat.reduceMul, Nat.reducePow, Int.reduceToNat, Int.reducePow, Nat.zero_add, Nat.mul_one, Int.toNat_natCast, R16_15]
          exact hk 0 _ g1 ⟨fun _ => hok, fun _ => rfl⟩
    · simp (maxSteps := 2000000) (disch := first | omega | assumption | (simp only [oneC_int, oneC_bool, oneC_str, oneC_ptr, oneC_sl, oneC_map]; done) | (simp only [List.length_cons, List.length_nil, List.length_set, List.length_map, List.length_replicate, List.length_append, List.length_take, List.length_drop, Int.toNat_natCast] <;> omega) | fail) only [vi, vb, vstr, rxc, rxo, Nat.reduceLeDiff, List.getElem?_cons_zero, List.getElem?_cons_succ, List.length_cons, List.length_nil, List.set_cons_zero, List.set_cons_succ, ↓reduceIte, Bool.not_true, Bool.not_false, true_and, and_true, not_true_eq_false, not_false_eq_true, decide_true, decide_false, Nat.reduceEqDiff, Nat.reduceAdd, Nat.reduceMul, Nat.reducePow, Int.reduceToNat, Int.reducePow, Nat.zero_add, Nat.mul_one, Int.toNat_natCast, R16_8]
      exact hk 2 _ g1 ⟨fun h => by omega, fun h => by have := h.wide; omega⟩
end Go.Rx

namespace Go.Rx
variable {M : Mach}
set_option maxRecDepth 4000
set_option linter.unusedSimpArgs false
set_option linter.unusedVariables false

theorem cls_bounds {d : DfaD} (hc : d.cls.length = 256) (hb : ∀ i : Nat, i < 256 → 0 ≤ d.cls.getD i 0 ∧ d.cls.getD i 0 < 256) {m : Int} (hm : maxI d.cls < m) : 1 ≤ m ∧ ∀ i : Nat, i < 256 → d.cls.getD i 0 < m := by
  have key : ∀ i : Nat, i < 256 → d.cls.getD i 0 < m := fun i hi => by
    have := le_maxI (getD_mem (l := d.cls) (i := i) (by omega)); omega
  refine ⟨?_, key⟩
  have := key 0 (by omega)
  have := (hb 0 (by omega)).1
  omega

theorem dfaWhole_ok (hm : M.Mono) (hO : M.O 18 = none) (hF : M.F 18 = some A18) {v vn vr : Value} {us : List Value} {S : Nat → Prop} {d : DfaD} {h : Heap} {K : KF} (hd : DfaV h S v vn vr us d) (ok : Dok d)
  (hk : ∀ h', Grow h h' → K (.bool true) h') : WF M 18 [v] h K := by
  rw [WF_eqT 7 hO hF, hd.val]
  simp (maxSteps := 2000000) (disch := first | omega | assumption | (simp only [oneC_int, oneC_bool, oneC_str, oneC_ptr, oneC_sl, oneC_map]; done) | (simp only [List.length_cons, List.length_nil, List.length_set, List.length_map, List.length_replicate, List.length_append, List.length_take, List.length_drop, Int.toNat_natCast] <;> omega) | fail) only [vi, vb, vstr, rxc, rxo, Nat.reduceLeDiff, List.getElem?_cons_zero, List.getElem?_cons_succ, List.length_cons, List.length_nil, List.set_cons_zero, List.set_cons_succ, ↓reduceIte, Bool.not_true, Bool.not_false, true_and, and_true, not_true_eq_false, not_false_eq_true, decide_true, decide_false, Nat.reduceEqDiff, Nat.reduceAdd, Nat.reduceMul, Nat.reducePow, Int.reduceToNat, Int.reducePow, Nat.zero_add, Nat.mul_one, Int.toNat_natCast, A18, R18_0, dfaC_len hd.cls]
  obtain ⟨h1, e1, g1, n1, b1⟩ := boxed h (dfaC d.start d.cls vn vr) 34
  rw [e1]
  have d1 := hd.grow g1
  have r := d1.next.sl.r
  have q := d1.rule.r
  have hl := d1.next.len
  obtain ⟨k1, k2, k3, k4, k5, k6, k7, k8⟩ := ok
  obtain ⟨k9, k10⟩ := cls_bounds hd.cls hd.byte k7
  have hrow0 := (d1.next.row 0 (by omega)).r
  simp only [List.length_map, hl] at r q hrow0
  have a1 : ¬ (d.next.length : Int) = 0 := by omega
  have a2 : (d.rule.length : Int) = d.next.length := by omega
  have a3 : ¬ ((d.next.getD 0 []).length : Int) = 0 := by omega
  simp (maxSteps := 2000000) (disch := first | omega | assumption | (simp only [oneC_int, oneC_bool, oneC_str, oneC_ptr, oneC_sl, oneC_map]; done) | (simp only [List.length_cons, List.length_nil, List.length_set, List.length_map, List.length_replicate, List.length_append, List.length_take, List.length_drop, Int.toNat_natCast] <;> omega) | fail) only [vi, vb, vstr, rxc, rxo, Nat.reduceLeDiff, List.getElem?_cons_zero, List.getElem?_cons_succ, List.length_cons, List.length_nil, List.set_cons_zero, List.set_cons_succ, ↓reduceIte, Bool.not_true, Bool.not_false, true_and, and_true, not_true_eq_false, not_false_eq_true, decide_true, decide_false, Nat.reduceEqDiff, Nat.reduceAdd, Nat.reduceMul, Nat.reducePow, Int.reduceToNat, Int.reducePow, Nat.zero_add, Nat.mul_one, Int.toNat_natCast, R18_1, b1, dfaC_0, dfaC_257 hd.cls, dfaC_258 hd.cls, r, q, R18_2, a1, a2, a3, vals_get, hrow0, Int.toNat_zero, R18_4]
  refine WC_bloop 7 (fun m e h' => ∃ (i : Int), m = (d.next.length - i).toNat ∧ 0 ≤ i ∧ e.g 1 = .pointer (some ⟨h.next, 0, none⟩) ∧ e.g 3 = .int .i64 d.next.length ∧ e.g 4 = .int .i64 i ∧ h1 = h')
    (fun e h' => e.g 1 = .pointer (some ⟨h.next, 0, none⟩) ∧ h1 = h') ?_ ?_ ?_
  · refine ⟨_, 0, rfl, by omega, ?_, ?_, ?_, rfl⟩
    all_goals simp (maxSteps := 2000000) (disch := first | omega | assumption | (simp only [oneC_int, oneC_bool, oneC_str, oneC_ptr, oneC_sl, oneC_map]; done) | (simp only [List.length_cons, List.length_nil, List.length_set, List.length_map, List.length_replicate, List.length_append, List.length_take, List.length_drop, Int.toNat_natCast] <;> omega) | fail) only [vi, vb, vstr, rxc, rxo, Nat.reduceLeDiff, List.getElem?_cons_zero, List.getElem?_cons_succ, List.length_cons, List.length_nil, List.set_cons_zero, List.set_cons_succ, ↓reduceIte, Bool.not_true, Bool.not_false, true_and, and_true, not_true_eq_false, not_false_eq_true, decide_true, decide_false, Nat.reduceEqDiff, Nat.reduceAdd, Nat.reduceMul, Nat.reducePow, Int.reduceToNat, Int.reducePow, Nat.zero_add, Nat.mul_one, Int.toNat_natCast]
  · rintro m e h' ⟨i, rfl, hi, e1', e3, e4, rfl⟩
    simp (maxSteps := 2000000) (disch := first | omega | assumption | (simp only [oneC_int, oneC_bool, oneC_str, oneC_ptr, oneC_sl, oneC_map]; done) | (simp only [List.length_cons, List.length_nil, List.length_set, List.length_map, List.length_replicate, List.length_append, List.length_take, List.length_drop, Int.toNat_natCast] <;> omega) | fail) only [vi, vb, vstr, rxc, rxo, Nat.reduceLeDiff, List.getElem?_cons_zero, List.getElem?_cons_succ, List.length_cons, List.length_nil, List.set_cons_zero, List.set_cons_succ, ↓reduceIte, Bool.not_true, Bool.not_false, true_and, and_true, not_true_eq_false, not_false_eq_true, decide_true, decide_false, Nat.reduceEqDiff, Nat.reduceAdd, Nat.reduceMul, Nat.reducePow, Int.reduceToNat, Int.reducePow, Nat.zero_add, Nat.mul_one, Int.toNat_natCast, B18_0, R18_5, e1', e3, e4]
    refine WCond_dec (fun hc => ?_) (fun hc => ?_)
    · have hrow := (d1.next.row i.toNat (by omega)).r
      simp only [List.length_map] at hrow
      obtain ⟨j1, j2, j3⟩ := k8 i.toNat (by omega)
      have j1' : ((d.next.getD i.toNat []).length : Int) = (d.next.getD 0 []).length := by omega
      simp (maxSteps := 2000000) (disch := first | omega | assumption | (simp only [oneC_int, oneC_bool, oneC_str, oneC_ptr, oneC_sl, oneC_map]; done) | (simp only [List.length_cons, List.length_nil, List.length_set, List.length_map, List.length_replicate, List.length_append, List.length_take, List.length_drop, Int.toNat_natCast] <;> omega) | fail) only [vi, vb, vstr, rxc, rxo, Nat.reduceLeDiff, List.getElem?_cons_zero, List.getElem?_cons_succ, List.length_cons, List.length_nil, List.set_cons_zero, List.set_cons_succ, ↓reduceIte, Bool.not_true, Bool.not_false, true_and, and_true, not_true_eq_false, not_false_eq_true, decide_true, decide_false, Nat.reduceEqDiff, Nat.reduceAdd, Nat.reduceMul, Nat.reducePow, Int.reduceToNat, Int.reducePow, Nat.zero_add, Nat.mul_one, Int.toNat_natCast]
      refine WC_regd0 hm ?_
      simp (maxSteps := 2000000) (disch := first | omega | assumption | (simp only [oneC_int, oneC_bool, oneC_str, oneC_ptr, oneC_sl, oneC_map]; done) | (simp only [List.length_cons, List.length_nil, List.length_set, List.length_map, List.length_replicate, List.length_append, List.length_take, List.length_drop, Int.toNat_natCast] <;> omega) | fail) only [vi, vb, vstr, rxc, rxo, Nat.reduceLeDiff, List.getElem?_cons_zero, List.getElem?_cons_succ, List.length_cons, List.length_nil, List.set_cons_zero, List.set_cons_succ, ↓reduceIte, Bool.not_true, Bool.not_false, true_and, and_true, not_true_eq_false, not_false_eq_true, decide_true, decide_false, Nat.reduceEqDiff, Nat.reduceAdd, Nat.reduceMul, Nat.reducePow, Int.reduceToNat, Int.reducePow, Nat.zero_add, Nat.mul_one, Int.toNat_natCast, R18_6, e1', e4, b1, dfaC_257 hd.cls, r, vals_get, hrow, hrow0, Int.toNat_zero, j1', R18_8]
      refine WC_bloop 7 (fun m e h' => ∃ (j : Int), m = ((d.next.getD i.toNat []).length - j).toNat ∧ 0 ≤ j ∧ e.g 1 = .pointer (some ⟨h.next, 0, none⟩) ∧ e.g 3 = .int .i64 d.next.length ∧ e.g 4 = .int .i64 i ∧ e.g 5 = .int .i64 j ∧ h1 = h')
        (fun e h' => e.g 1 = .pointer (some ⟨h.next, 0, none⟩) ∧ e.g 3 = .int .i64 d.next.length ∧ e.g 4 = .int .i64 i ∧ h1 = h') ?_ ?_ ?_
      · refine ⟨_, 0, rfl, by omega, ?_, ?_, ?_, ?_, rfl⟩
        all_goals simp (maxSteps := 2000000) (disch := first | omega | assumption | (simp only [oneC_int, oneC_bool, oneC_str, oneC_ptr, oneC_sl, oneC_map]; done) | (simp only [List.length_cons, List.length_nil, List.length_set, List.length_map, List.length_replicate, List.length_append, List.length_take, List.length_drop, Int.toNat_natCast] <;> omega) | fail) only [vi, vb, vstr, rxc, rxo, Nat.reduceLeDiff, List.getElem?_cons_zero, List.getElem?_cons_succ, List.length_cons, List.length_nil, List.set_cons_zero, List.set_cons_succ, ↓reduceIte, Bool.not_true, Bool.not_false, true_and, and_true, not_true_eq_false, not_false_eq_true, decide_true, decide_false, Nat.reduceEqDiff, Nat.reduceAdd, Nat.reduceMul, Nat.reducePow, Int.reduceToNat, Int.reducePow, Nat.zero_add, Nat.mul_one, Int.toNat_natCast, e1', e3, e4]
      · rintro m e h' ⟨j, rfl, hj, e1', e3, e4, e5, rfl⟩
        simp (maxSteps := 2000000) (disch := first | omega | assumption | (simp only [oneC_int, oneC_bool, oneC_str, oneC_ptr, oneC_sl, oneC_map]; done) | (simp only [List.length_cons, List.length_nil, List.length_set, List.length_map, List.length_replicate, List.length_append, List.length_take, List.length_drop, Int.toNat_natCast] <;> omega) | fail) only [vi, vb, vstr, rxc, rxo, Nat.reduceLeDiff, List.getElem?_cons_zero, List.getElem?_cons_succ, List.length_cons, List.length_nil, List.set_cons_zero, List.set_cons_succ, ↓reduceIte, Bool.not_true, Bool.not_false, true_and, and_true, not_true_eq_false, not_false_eq_true, decide_true, decide_false, Nat.reduceEqDiff, Nat.reduceAdd, Nat.reduceMul, Nat.reducePow, Int.reduceToNat, Int.reducePow, Nat.zero_add, Nat.mul_one, Int.toNat_natCast, B18_1, R18_9, e1', e3, e4, e5, b1, dfaC_257 hd.cls, r, vals_get, hrow]
        refine WCond_dec (fun hc2 => ?_) (fun hc2 => ?_)
        · have hlt := le_maxI (getD_mem (l := d.next.getD i.toNat []) (i := j.toNat) (by omega))
          simp (maxSteps := 2000000) (disch := first | omega | assumption | (simp only [oneC_int, oneC_bool, oneC_str, oneC_ptr, oneC_sl, oneC_map]; done) | (simp only [List.length_cons, List.length_nil, List.length_set, List.length_map, List.length_replicate, List.length_append, List.length_take, List.length_drop, Int.toNat_natCast] <;> omega) | fail) only [vi, vb, vstr, rxc, rxo, Nat.reduceLeDiff, List.getElem?_cons_zero, List.getElem?_cons_succ, List.length_cons, List.length_nil, List.set_cons_zero, List.set_cons_succ, ↓reduceIte, Bool.not_true, Bool.not_false, true_and, and_true, not_true_eq_false, not_false_eq_true, decide_true, decide_false, Nat.reduceEqDiff, Nat.reduceAdd, Nat.reduceMul, Nat.reducePow, Int.reduceToNat, Int.reducePow, Nat.zero_add, Nat.mul_one, Int.toNat_natCast, R18_10, e1', e3, e4, e5, b1, dfaC_257 hd.cls, r, vals_get (l := us), hrow, ints_get, R18_12]
          exact ⟨_, by omega, j + 1, rfl, by omega, rfl⟩
        · simp (maxSteps := 2000000) (disch := first | omega | assumption | (simp only [oneC_int, oneC_bool, oneC_str, oneC_ptr, oneC_sl, oneC_map]; done) | (simp only [List.length_cons, List.length_nil, List.length_set, List.length_map, List.length_replicate, List.length_append, List.length_take, List.length_drop, Int.toNat_natCast] <;> omega) | fail) only [vi, vb, vstr, rxc, rxo, Nat.reduceLeDiff, List.getElem?_cons_zero, List.getElem?_cons_succ, List.length_cons, List.length_nil, List.set_cons_zero, List.set_cons_succ, ↓reduceIte, Bool.not_true, Bool.not_false, true_and, and_true, not_true_eq_false, not_false_eq_true, decide_true, decide_false, Nat.reduceEqDiff, Nat.reduceAdd, Nat.reduceMul, Nat.reducePow, Int.reduceToNat, Int.reducePow, Nat.zero_add, Nat.mul_one, Int.toNat_natCast, e1', e3, e4]
      · rintro e h' ⟨e1', e3, e4, rfl⟩
        simp (maxSteps := 2000000) (disch := first | omega | assumption | (simp only [oneC_int, oneC_bool, oneC_str, oneC_ptr, oneC_sl, oneC_map]; done) | (simp only [List.length_cons, List.length_nil, List.length_set, List.length_map, List.length_replicate, List.length_append, List.length_take, List.length_drop, Int.toNat_natCast] <;> omega) | fail) only [vi, vb, vstr, rxc, rxo, Nat.reduceLeDiff, List.getElem?_cons_zero, List.getElem?_cons_succ, List.length_cons, List.length_nil, List.set_cons_zero, List.set_cons_succ, ↓reduceIte, Bool.not_true, Bool.not_false, true_and, and_true, not_true_eq_false, not_false_eq_true, decide_true, decide_false, Nat.reduceEqDiff, Nat.reduceAdd, Nat.reduceMul, Nat.reducePow, Int.reduceToNat, Int.reducePow, Nat.zero_add, Nat.mul_one, Int.toNat_natCast, e1', e3, e4, R18_13]
        exact ⟨_, by omega, i + 1, rfl, by omega, rfl⟩
    · simp (maxSteps := 2000000) (disch := first | omega | assumption | (simp only [oneC_int, oneC_bool, oneC_str, oneC_ptr, oneC_sl, oneC_map]; done) | (simp only [List.length_cons, List.length_nil, List.length_set, List.length_map, List.length_replicate, List.length_append, List.length_take, List.length_drop, Int.toNat_natCast] <;> omega) | fail) only [vi, vb, vstr, rxc, rxo, Nat.reduceLeDiff, List.getElem?_cons_zero, List.getElem?_cons_succ, List.length_cons, List.length_nil, List.set_cons_zero, List.set_cons_succ, ↓reduceIte, Bool.not_true, Bool.not_false, true_and, and_true, not_true_eq_false, not_false_eq_true, decide_true, decide_false, Nat.reduceEqDiff, Nat.reduceAdd, Nat.reduceMul, Nat.reducePow, Int.reduceToNat, Int.reducePow, Nat.zero_add, Nat.mul_one, Int.toNat_natCast, e1']
  · rintro e h' ⟨e1', rfl⟩
    simp (maxSteps := 2000000) (disch := first | omega | assumption | (simp only [oneC_int, oneC_bool, oneC_str, oneC_ptr, oneC_sl, oneC_map]; done) | (simp only [List.length_cons, List.length_nil, List.length_set, List.length_map, List.length_replicate, List.length_append, List.length_take, List.length_drop, Int.toNat_natCast] <;> omega) | fail) only [vi, vb, vstr, rxc, rxo, Nat.reduceLeDiff, List.getElem?_cons_zero, List.getElem?_cons_succ, List.length_cons, List.length_nil, List.set_cons_zero, List.set_cons_succ, ↓reduceIte, Bool.not_true, Bool.not_false, true_and, and_true, not_true_eq_false, not_false_eq_true, decide_true, decide_false, Nat.reduceEqDiff, Nat.reduceAdd, Nat.reduceMul, Nat.reducePow, Int.reduceToNat, Int.reducePow, Nat.zero_add, Nat.mul_one, Int.toNat_natCast, R18_14]
    refine WC_bloop 7 (fun m e h' => ∃ (i : Int), m = (256 - i).toNat ∧ 0 ≤ i ∧ e.g 1 = .pointer (some ⟨h.next, 0, none⟩) ∧ e.g 6 = .int .i64 i ∧ h1 = h')
      (fun e h' => h1 = h') ?_ ?_ ?_
    · refine ⟨_, 0, rfl, by omega, ?_, ?_, rfl⟩
      all_goals simp (maxSteps := 2000000) (disch := first | omega | assumption | (simp only [oneC_int, oneC_bool, oneC_str, oneC_ptr, oneC_sl, oneC_map]; done) | (simp only [List.length_cons, List.length_nil, List.length_set, List.length_map, List.length_replicate, List.length_append, List.length_take, List.length_drop, Int.toNat_natCast] <;> omega) | fail) only [vi, vb, vstr, rxc, rxo, Nat.reduceLeDiff, List.getElem?_cons_zero, List.getElem?_cons_succ, List.length_cons, List.length_nil, List.set_cons_zero, List.set_cons_succ, ↓reduceIte, Bool.not_true, Bool.not_false, true_and, and_true, not_true_eq_false, not_false_eq_true, decide_true, decide_false, Nat.reduceEqDiff, Nat.reduceAdd, Nat.reduceMul, Nat.reducePow, Int.reduceToNat, Int.reducePow, Nat.zero_add, Nat.mul_one, Int.toNat_natCast, e1']
    · rintro m e h' ⟨i, rfl, hi, e1', e6, rfl⟩
      simp (maxSteps := 2000000) (disch := first | omega | assumption | (simp only [oneC_int, oneC_bool, oneC_str, oneC_ptr, oneC_sl, oneC_map]; done) | (simp only [List.length_cons, List.length_nil, List.length_set, List.length_map, List.length_replicate, List.length_append, List.length_take, List.length_drop, Int.toNat_natCast] <;> omega) | fail) only [vi, vb, vstr, rxc, rxo, Nat.reduceLeDiff, List.getElem?_cons_zero, List.getElem?_cons_succ, List.length_cons, List.length_nil, List.set_cons_zero, List.set_cons_succ, ↓reduceIte, Bool.not_true, Bool.not_false, true_and, and_true, not_true_eq_false, not_false_eq_true, decide_true, decide_false, Nat.reduceEqDiff, Nat.reduceAdd, Nat.reduceMul, Nat.reducePow, Int.reduceToNat, Int.reducePow, Nat.zero_add, Nat.mul_one, Int.toNat_natCast, B18_2, R18_15, e1', e6]
      refine WCond_dec (fun hc => ?_) (fun hc => ?_)
      · have hb := hd.byte i.toNat (by omega)
        have hb2 := k10 i.toNat (by omega)
        simp (maxSteps := 2000000) (disch := first | omega | assumption | (simp only [oneC_int, oneC_bool, oneC_str, oneC_ptr, oneC_sl, oneC_map]; done) | (simp only [List.length_cons, List.length_nil, List.length_set, List.length_map, List.length_replicate, List.length_append, List.length_take, List.length_drop, Int.toNat_natCast] <;> omega) | fail) only [vi, vb, vstr, rxc, rxo, Nat.reduceLeDiff, List.getElem?_cons_zero, List.getElem?_cons_succ, List.length_cons, List.length_nil, List.set_cons_zero, List.set_cons_succ, ↓reduceIte, Bool.not_true, Bool.not_false, true_and, and_true, not_true_eq_false, not_false_eq_true, decide_true, decide_false, Nat.reduceEqDiff, Nat.reduceAdd, Nat.reduceMul, Nat.reducePow, Int.reduceToNat, Int.reducePow, Nat.zero_add, Nat.mul_one, Int.toNat_natCast]
        refine WC_regd0 hm ?_
        simp (maxSteps := 2000000) (disch := first | omega | assumption | (simp only [oneC_int, oneC_bool, oneC_str, oneC_ptr, oneC_sl, oneC_map]; done) | (simp only [List.length_cons, List.length_nil, List.length_set, List.length_map, List.length_replicate, List.length_append, List.length_take, List.length_drop, Int.toNat_natCast] <;> omega) | fail) only [vi, vb, vstr, rxc, rxo, Nat.reduceLeDiff, List.getElem?_cons_zero, List.getElem?_cons_succ, List.length_cons, List.length_nil, List.set_cons_zero, List.set_cons_succ, ↓reduceIte, Bool.not_true, Bool.not_false, true_and, and_true, not_true_eq_false, not_false_eq_true, decide_true, decide_false, Nat.reduceEqDiff, Nat.reduceAdd, Nat.reduceMul, Nat.reducePow, Int.reduceToNat, Int.reducePow, Nat.zero_add, Nat.mul_one, Int.toNat_natCast, R18_16, e1', e6, b1, dfaC_257 hd.cls, dfaC_cls hd.cls, iConv_int, r, vals_get, hrow0, Int.toNat_zero, R18_18]
        exact ⟨_, by omega, i + 1, rfl, by omega, rfl⟩
      · simp (maxSteps := 2000000) (disch := first | omega | assumption | (simp only [oneC_int, oneC_bool, oneC_str, oneC_ptr, oneC_sl, oneC_map]; done) | (simp only [List.length_cons, List.length_nil, List.length_set, List.length_map, List.length_replicate, List.length_append, List.length_take, List.length_drop, Int.toNat_natCast] <;> omega) | fail) only [vi, vb, vstr, rxc, rxo, Nat.reduceLeDiff, List.getElem?_cons_zero, List.getElem?_cons_succ, List.length_cons, List.length_nil, List.set_cons_zero, List.set_cons_succ, ↓reduceIte, Bool.not_true, Bool.not_false, true_and, and_true, not_true_eq_false, not_false_eq_true, decide_true, decide_false, Nat.reduceEqDiff, Nat.reduceAdd, Nat.reduceMul, Nat.reducePow, Int.reduceToNat, Int.reducePow, Nat.zero_add, Nat.mul_one, Int.toNat_natCast]
    · rintro e h' rfl
      simp (maxSteps := 2000000) (disch := first | omega | assumption | (simp only [oneC_int, oneC_bool, oneC_str, oneC_ptr, oneC_sl, oneC_map]; done) | (simp only [List.length_cons, List.length_nil, List.length_set, List.length_map, List.length_replicate, List.length_append, List.length_take, List.length_drop, Int.toNat_natCast] <;> omega) | fail) only [vi, vb, vstr, rxc, rxo, Nat.reduceLeDiff, List.getElem?_cons_zero, List.getElem?_cons_succ, List.length_cons, List.length_nil, List.set_cons_zero, List.set_cons_succ, ↓reduceIte, Bool.not_true, Bool.not_false, true_and, and_true, not_true_eq_false, not_false_eq_true, decide_true, decide_false, Nat.reduceEqDiff, Nat.reduceAdd, Nat.reduceMul, Nat.reducePow, Int.reduceToNat, Int.reducePow, Nat.zero_add, Nat.mul_one, Int.toNat_natCast, R18_19]
      exact hk _ g1

theorem eqL_rep : ∀ (n : Nat) (a b : List Int), a.length = n → b.length = n → eqL (List.replicate n 1) (a.map (.int .u8)) (b.map (.int .u8)) = some (decide (a = b))
  | 0, [], [], _, _ => rfl
  | n + 1, x :: a, y :: b, ha, hb => by
    rw [List.replicate_succ]
    show (match eqP 1 (Value.int .u8 x) (.int .u8 y) with
      | some b' => (match eqL (List.replicate n 1) (a.map (.int .u8)) (b.map (.int .u8)) with | some c => some (b' && c) | none => none)
      | none => none) = _
    have : eqP 1 (Value.int .u8 x) (.int .u8 y) = some (decide (x = y)) := by
      show (bif sameKind .u8 .u8 then some (eqI x y) else none) = _
      rw [eqI_eq]; rfl
    rw [this, eqL_rep n a b (by simpa using ha) (by simpa using hb)]
    simp only [List.cons.injEq, Bool.decide_and]
  | 0, _ :: _, _, ha, _ => by simp at ha
  | 0, [], _ :: _, _, hb => by simp at hb
  | _ + 1, [], _, ha, _ => by simp at ha
  | _ + 1, _ :: _, [], _, hb => by simp at hb
theorem dfaC_cut {s : Int} {cls : List Int} {vn vr : Value} (hc : cls.length = 256) : cut (dfaC s cls vn vr) 1 256 = some (cls.map (.int .u8)) := by
  rw [cut_ok (by rw [dfaC_len hc]; omega)]
  show some (((cls.map (Value.int .u8) ++ [vn, vr])).take 256) = _
  rw [List.take_append_of_le_length (by simp [hc]), List.take_of_length_le (by simp [hc])]
theorem iEqa_cls {a b : List Int} {h : Heap} (ha : a.length = 256) (hb : b.length = 256) : iEqa (rn [(256, 1)]) true (.agg ⟨a.map (.int .u8)⟩) (.agg ⟨b.map (.int .u8)⟩) h = some (.bool (decide (¬ a = b)), h) := by
  unfold iEqa
  have : rn [(256, 1)] = List.replicate 256 1 := by rfl
  rw [this]
  simp only
  rw [eqL_rep 256 a b ha hb]
  simp only [cond_true, decide_not]

theorem sameDfa_ok (hm : M.Mono) (hO44 : M.O 44 = none) (hF44 : M.F 44 = some A44) (hO : M.O 20 = none) (hF : M.F 20 = some A20) {v vn vr w wn wr : Value} {us ws : List Value} {S T : Nat → Prop} {c d : DfaD} {h : Heap} {K : KF}
  (hc : DfaV h S v vn vr us c) (hd : DfaV h T w wn wr ws d) (hcd : c = d) (hk : ∀ h', Grow h h' → K (.bool true) h') : WF M 20 [v, w] h K := by
  subst hcd
  rw [WF_eqT 6 hO hF, hc.val, hd.val]
  simp (maxSteps := 2000000) (disch := first | omega | assumption | (simp only [oneC_int, oneC_bool, oneC_str, oneC_ptr, oneC_sl, oneC_map]; done) | (simp only [List.length_cons, List.length_nil, List.length_set, List.length_map, List.length_replicate, List.length_append, List.length_take, List.length_drop, Int.toNat_natCast] <;> omega) | fail) only [vi, vb, vstr, rxc, rxo, Nat.reduceLeDiff, List.getElem?_cons_zero, List.getElem?_cons_succ, List.length_cons, List.length_nil, List.set_cons_zero, List.set_cons_succ, ↓reduceIte, Bool.not_true, Bool.not_false, true_and, and_true, not_true_eq_false, not_false_eq_true, decide_true, decide_false, Nat.reduceEqDiff, Nat.reduceAdd, Nat.reduceMul, Nat.reducePow, Int.reduceToNat, Int.reducePow, Nat.zero_add, Nat.mul_one, Int.toNat_natCast, A20, R20_0, dfaC_len hc.cls]
  obtain ⟨h1, e1, g1, n1, b1⟩ := boxed h (dfaC c.start c.cls vn vr) 34
  rw [e1]
  obtain ⟨h2, e2, g2, n2, b2⟩ := boxed h1 (dfaC c.start c.cls wn wr) 34
  rw [e2]
  have g := g1.trans g2
  rw [n1] at b2 n2
  have b1' : h2.at h.next = some (.cells (dfaC c.start c.cls vn vr) 34 true) := by rw [g2.2 _ (by omega)]; exact b1
  have c1 := hc.grow g
  have d1 := hd.grow g
  have r := c1.next.sl.r
  have r' := d1.next.sl.r
  have hl := c1.next.len
  have hl' := d1.next.len
  simp only [List.length_map, hl, hl'] at r r'
  obtain ⟨z1, z2, z3⟩ := hc.size
  simp (maxSteps := 2000000) (disch := first | omega | assumption | (simp only [oneC_int, oneC_bool, oneC_str, oneC_ptr, oneC_sl, oneC_map]; done) | (simp only [List.length_cons, List.length_nil, List.length_set, List.length_map, List.length_replicate, List.length_append, List.length_take, List.length_drop, Int.toNat_natCast] <;> omega) | fail) only [vi, vb, vstr, rxc, rxo, Nat.reduceLeDiff, List.getElem?_cons_zero, List.getElem?_cons_succ, List.length_cons, List.length_nil, List.set_cons_zero, List.set_cons_succ, ↓reduceIte, Bool.not_true, Bool.not_false, true_and, and_true, not_true_eq_false, not_false_eq_true, decide_true, decide_false, Nat.reduceEqDiff, Nat.reduceAdd, Nat.reduceMul, Nat.reducePow, Int.reduceToNat, Int.reducePow, Nat.zero_add, Nat.mul_one, Int.toNat_natCast, n1, R20_1, b1', b2, dfaC_0, dfaC_257 hc.cls, dfaC_258 hc.cls, dfaC_cut hc.cls, iEqa_cls hc.cls hc.cls, r, r']
  refine sameInts_ok hm hO44 hF44 c1.rule d1.rule (by omega) ?_
  simp (maxSteps := 2000000) (disch := first | omega | assumption | (simp only [oneC_int, oneC_bool, oneC_str, oneC_ptr, oneC_sl, oneC_map]; done) | (simp only [List.length_cons, List.length_nil, List.length_set, List.length_map, List.length_replicate, List.length_append, List.length_take, List.length_drop, Int.toNat_natCast] <;> omega) | fail) only [vi, vb, vstr, rxc, rxo, Nat.reduceLeDiff, List.getElem?_cons_zero, List.getElem?_cons_succ, List.length_cons, List.length_nil, List.set_cons_zero, List.set_cons_succ, ↓reduceIte, Bool.not_true, Bool.not_false, true_and, and_true, not_true_eq_false, not_false_eq_true, decide_true, decide_false, Nat.reduceEqDiff, Nat.reduceAdd, Nat.reduceMul, Nat.reducePow, Int.reduceToNat, Int.reducePow, Nat.zero_add, Nat.mul_one, Int.toNat_natCast, R20_3]
  refine WC_bloop 6 (fun m e h' => ∃ (i : Int), m = (c.next.length - i).toNat ∧ 0 ≤ i ∧ e.g 2 = .pointer (some ⟨h.next, 0, none⟩) ∧ e.g 3 = .pointer (some ⟨h.next + 1, 0, none⟩) ∧ e.g 5 = .int .i64 i ∧ h2 = h')
    (fun e h' => h2 = h') ?_ ?_ ?_
  · refine ⟨_, 0, rfl, by omega, ?_, ?_, ?_, rfl⟩
    all_goals simp (maxSteps := 2000000) (disch := first | omega | assumption | (simp only [oneC_int, oneC_bool, oneC_str, oneC_ptr, oneC_sl, oneC_map]; done) | (simp only [List.length_cons, List.length_nil, List.length_set, List.length_map, List.length_replicate, List.length_append, List.length_take, List.length_drop, Int.toNat_natCast] <;> omega) | fail) only [vi, vb, vstr, rxc, rxo, Nat.reduceLeDiff, List.getElem?_cons_zero, List.getElem?_cons_succ, List.length_cons, List.length_nil, List.set_cons_zero, List.set_cons_succ, ↓reduceIte, Bool.not_true, Bool.not_false, true_and, and_true, not_true_eq_false, not_false_eq_true, decide_true, decide_false, Nat.reduceEqDiff, Nat.reduceAdd, Nat.reduceMul, Nat.reducePow, Int.reduceToNat, Int.reducePow, Nat.zero_add, Nat.mul_one, Int.toNat_natCast, n1]
  · rintro m e h' ⟨i, rfl, hi, e2', e3, e5, rfl⟩
    simp (maxSteps := 2000000) (disch := first | omega | assumption | (simp only [oneC_int, oneC_bool, oneC_str, oneC_ptr, oneC_sl, oneC_map]; done) | (simp only [List.length_cons, List.length_nil, List.length_set, List.length_map, List.length_replicate, List.length_append, List.length_take, List.length_drop, Int.toNat_natCast] <;> omega) | fail) only [vi, vb, vstr, rxc, rxo, Nat.reduceLeDiff, List.getElem?_cons_zero, List.getElem?_cons_succ, List.length_cons, List.length_nil, List.set_cons_zero, List.set_cons_succ, ↓reduceIte, Bool.not_true, Bool.not_false, true_and, and_true, not_true_eq_false, not_false_eq_true, decide_true, decide_false, Nat.reduceEqDiff, Nat.reduceAdd, Nat.reduceMul, Nat.reducePow, Int.reduceToNat, Int.reducePow, Nat.zero_add, Nat.mul_one, Int.toNat_natCast, B20_0, R20_4, e2', e3, e5, b1', dfaC_257 hc.cls, r]
    refine WCond_dec (fun hx => ?_) (fun hx => ?_)
    · have hz := z3 i.toNat (by omega)
      simp (maxSteps := 2000000) (disch := first | omega | assumption | (simp only [oneC_int, oneC_bool, oneC_str, oneC_ptr, oneC_sl, oneC_map]; done) | (simp only [List.length_cons, List.length_nil, List.length_set, List.length_map, List.length_replicate, List.length_append, List.length_take, List.length_drop, Int.toNat_natCast] <;> omega) | fail) only [vi, vb, vstr, rxc, rxo, Nat.reduceLeDiff, List.getElem?_cons_zero, List.getElem?_cons_succ, List.length_cons, List.length_nil, List.set_cons_zero, List.set_cons_succ, ↓reduceIte, Bool.not_true, Bool.not_false, true_and, and_true, not_true_eq_false, not_false_eq_true, decide_true, decide_false, Nat.reduceEqDiff, Nat.reduceAdd, Nat.reduceMul, Nat.reducePow, Int.reduceToNat, Int.reducePow, Nat.zero_add, Nat.mul_one, Int.toNat_natCast]
      refine WC_regd0 hm ?_
      simp (maxSteps := 2000000) (disch := first | omega | assumption | (simp only [oneC_int, oneC_bool, oneC_str, oneC_ptr, oneC_sl, oneC_map]; done) | (simp only [List.length_cons, List.length_nil, List.length_set, List.length_map, List.length_replicate, List.length_append, List.length_take, List.length_drop, Int.toNat_natCast] <;> omega) | fail) only [vi, vb, vstr, rxc, rxo, Nat.reduceLeDiff, List.getElem?_cons_zero, List.getElem?_cons_succ, List.length_cons, List.length_nil, List.set_cons_zero, List.set_cons_succ, ↓reduceIte, Bool.not_true, Bool.not_false, true_and, and_true, not_true_eq_false, not_false_eq_true, decide_true, decide_false, Nat.reduceEqDiff, Nat.reduceAdd, Nat.reduceMul, Nat.reducePow, Int.reduceToNat, Int.reducePow, Nat.zero_add, Nat.mul_one, Int.toNat_natCast, R20_5, e2', e3, e5, b1', b2, dfaC_257 hc.cls, r, r', vals_get]
      refine sameInts_ok hm hO44 hF44 (c1.next.row i.toNat (by omega)) (d1.next.row i.toNat (by omega)) (by omega) ?_
      simp (maxSteps := 2000000) (disch := first | omega | assumption | (simp only [oneC_int, oneC_bool, oneC_str, oneC_ptr, oneC_sl, oneC_map]; done) | (simp only [List.length_cons, List.length_nil, List.length_set, List.length_map, List.length_replicate, List.length_append, List.length_take, List.length_drop, Int.toNat_natCast] <;> omega) | fail) only [vi, vb, vstr, rxc, rxo, Nat.reduceLeDiff, List.getElem?_cons_zero, List.getElem?_cons_succ, List.length_cons, List.length_nil, List.set_cons_zero, List.set_cons_succ, ↓reduceIte, Bool.not_true, Bool.not_false, true_and, and_true, not_true_eq_false, not_false_eq_true, decide_true, decide_false, Nat.reduceEqDiff, Nat.reduceAdd, Nat.reduceMul, Nat.reducePow, Int.reduceToNat, Int.reducePow, Nat.zero_add, Nat.mul_one, Int.toNat_natCast, e2', e3, e5, R20_7]
      exact ⟨_, by omega, i + 1, rfl, by omega, rfl⟩
    · simp (maxSteps := 2000000) (disch := first | omega | assumption | (simp only [oneC_int, oneC_bool, oneC_str, oneC_ptr, oneC_sl, oneC_map]; done) | (simp only [List.length_cons, List.length_nil, List.length_set, List.length_map, List.length_replicate, List.length_append, List.length_take, List.length_drop, Int.toNat_natCast] <;> omega) | fail) only [vi, vb, vstr, rxc, rxo, Nat.reduceLeDiff, List.getElem?_cons_zero, List.getElem?_cons_succ, List.length_cons, List.length_nil, List.set_cons_zero, List.set_cons_succ, ↓reduceIte, Bool.not_true, Bool.not_false, true_and, and_true, not_true_eq_false, not_false_eq_true, decide_true, decide_false, Nat.reduceEqDiff, Nat.reduceAdd, Nat.reduceMul, Nat.reducePow, Int.reduceToNat, Int.reducePow, Nat.zero_add, Nat.mul_one, Int.toNat_natCast]
  · rintro e h' rfl
    simp (maxSteps := 2000000) (disch := first | omega | assumption | (simp only [oneC_int, oneC_bool, oneC_str, oneC_ptr, oneC_sl, oneC_map]; done) | (simp only [List.length_cons, List.length_nil, List.length_set, List.length_map, List.length_replicate, List.length_append, List.length_take, List.length_drop, Int.toNat_natCast] <;> omega) | fail) only [vi, vb, vstr, rxc, rxo, Nat.reduceLeDiff, List.getElem?_cons_zero, List.getElem?_cons_succ, List.length_cons, List.length_nil, List.set_cons_zero, List.set_cons_succ, ↓reduceIte, Bool.not_true, Bool.not_false, true_and, and_true, not_true_eq_false, not_false_eq_true, decide_true, decide_false, Nat.reduceEqDiff, Nat.reduceAdd, Nat.reduceMul, Nat.reducePow, Int.reduceToNat, Int.reducePow, Nat.zero_add, Nat.mul_one, Int.toNat_natCast, R20_8]
    exact hk _ g
end Go.Rx

namespace Go.Rx
variable {M : Mach}
set_option maxRecDepth 4000
set_option linter.unusedSimpArgs false
set_option linter.unusedVariables false

def enc (n : Int) : List Int := [(n + 1) / 65536, (n + 1) / 256 % 256, (n + 1) % 256]

theorem put_ok (hO : M.O 73 = none) (hF : M.F 73 = some A73) {v : Value} {bs : List Int} {n : Int} {h : Heap} {K : KF} (h1 : 1 ≤ h.next) (ho : OwnV h 5 v (bs.map (.int .u8))) (hl : bs.length < 4294967296) (h0 : -1 ≤ n) (hn : n + 1 < 16777216)
  (hk : ∀ v' h', OwnV h' 5 v' ((bs ++ enc n).map (.int .u8)) → Chg (bno v) h h' → (bno v' = bno v ∨ h.next ≤ bno v') → K v' h') : WF M 73 [v, .int .i64 n] h K := by
  rw [WF_eqT 5 hO hF]
  simp (maxSteps := 2000000) (disch := first | omega | assumption | (simp only [oneC_int, oneC_bool, oneC_str, oneC_ptr, oneC_sl, oneC_map]; done) | (simp only [List.length_cons, List.length_nil, List.length_set, List.length_map, List.length_replicate, List.length_append, List.length_take, List.length_drop, Int.toNat_natCast] <;> omega) | fail) only [vi, vb, vstr, rxc, rxo, Nat.reduceLeDiff, List.getElem?_cons_zero, List.getElem?_cons_succ, List.length_cons, List.length_nil, List.set_cons_zero, List.set_cons_succ, ↓reduceIte, Bool.not_true, Bool.not_false, true_and, and_true, not_true_eq_false, not_false_eq_true, decide_true, decide_false, Nat.reduceEqDiff, Nat.reduceAdd, Nat.reduceMul, Nat.reducePow, Int.reduceToNat, Int.reducePow, Nat.zero_add, Nat.mul_one, Int.toNat_natCast, A73, R73_0, R73_1, binV_shr, IntKind.bits, iConv_int, wrap_u8_mod]
  have c0 : Chg (bno v) h (h.new (.cells [.int .u8 ((n + 1) / 65536), .int .u8 ((n + 1) / 256 % 256), .int .u8 ((n + 1) % 256)] 5 true)) := (Chg.refl _ _).new
  have hb := ho.1
  refine WI_appsc (by simp) (ho.chg (w := 0) ((Chg.refl _ _).new) (by omega)) (own_row h1 rfl).sl (by simp [isAggV]) (by simp; omega) fun v' h' o1 c1 f1 => ?_
  simp (maxSteps := 2000000) (disch := first | omega | assumption | (simp only [oneC_int, oneC_bool, oneC_str, oneC_ptr, oneC_sl, oneC_map]; done) | (simp only [List.length_cons, List.length_nil, List.length_set, List.length_map, List.length_replicate, List.length_append, List.length_take, List.length_drop, Int.toNat_natCast] <;> omega) | fail) only [vi, vb, vstr, rxc, rxo, Nat.reduceLeDiff, List.getElem?_cons_zero, List.getElem?_cons_succ, List.length_cons, List.length_nil, List.set_cons_zero, List.set_cons_succ, ↓reduceIte, Bool.not_true, Bool.not_false, true_and, and_true, not_true_eq_false, not_false_eq_true, decide_true, decide_false, Nat.reduceEqDiff, Nat.reduceAdd, Nat.reduceMul, Nat.reducePow, Int.reduceToNat, Int.reducePow, Nat.zero_add, Nat.mul_one, Int.toNat_natCast]
  refine hk v' h' ?_ (c0.trans c1) ?_
  · simpa [enc] using o1
  · simp only [Heap.next_new] at f1; omega

theorem rule_ok (hO : M.O 71 = none) (hF : M.F 71 = some A71) {v vn vr : Value} {us : List Value} {S : Nat → Prop} {d : DfaD} {i : Int} {h : Heap} {K : KF} (hd : DfaV h S v vn vr us d) (h0 : 0 ≤ i) (hi : i < d.rule.length)
  (hk : ∀ h', Grow h h' → K (.int .i64 (max (d.rule.getD i.toNat 0) (-1))) h') : WF M 71 [v, .int .i64 i] h K := by
  rw [WF_eqT 5 hO hF, hd.val]
  simp (maxSteps := 2000000) (disch := first | omega | assumption | (simp only [oneC_int, oneC_bool, oneC_str, oneC_ptr, oneC_sl, oneC_map]; done) | (simp only [List.length_cons, List.length_nil, List.length_set, List.length_map, List.length_replicate, List.length_append, List.length_take, List.length_drop, Int.toNat_natCast] <;> omega) | fail) only [vi, vb, vstr, rxc, rxo, Nat.reduceLeDiff, List.getElem?_cons_zero, List.getElem?_cons_succ, List.length_cons, List.length_nil, List.set_cons_zero, List.set_cons_succ, ↓reduceIte, Bool.not_true, Bool.not_false, true_and, and_true, not_true_eq_false, not_false_eq_true, decide_true, decide_false, Nat.reduceEqDiff, Nat.reduceAdd, Nat.reduceMul, Nat.reducePow, Int.reduceToNat, Int.reducePow, Nat.zero_add, Nat.mul_one, Int.toNat_natCast, A71, R71_0, dfaC_len hd.cls]
  obtain ⟨h1, e1, g1, n1, b1⟩ := boxed h (dfaC d.start d.cls vn vr) 34
  rw [e1]
  have q := (hd.rule.grow g1).r
  simp only [List.length_map] at q
  simp (maxSteps := 2000000) (disch := first | omega | assumption | (simp only [oneC_int, oneC_bool, oneC_str, oneC_ptr, oneC_sl, oneC_map]; done) | (simp only [List.length_cons, List.length_nil, List.length_set, List.length_map, List.length_replicate, List.length_append, List.length_take, List.length_drop, Int.toNat_natCast] <;> omega) | fail) only [vi, vb, vstr, rxc, rxo, Nat.reduceLeDiff, List.getElem?_cons_zero, List.getElem?_cons_succ, List.length_cons, List.length_nil, List.set_cons_zero, List.set_cons_succ, ↓reduceIte, Bool.not_true, Bool.not_false, true_and, and_true, not_true_eq_false, not_false_eq_true, decide_true, decide_false, Nat.reduceEqDiff, Nat.reduceAdd, Nat.reduceMul, Nat.reducePow, Int.reduceToNat, Int.reducePow, Nat.zero_add, Nat.mul_one, Int.toNat_natCast, R71_1, b1, dfaC_258 hd.cls, q, ints_get]
  exact hk _ g1

/-- Is no lesser byte in its class? -/
def firstB (cls : List Int) (b : Nat) : Bool := (List.range b).all fun a => decide (cls.getD a 0 ≠ cls.getD b 0)
theorem firstB_iff {cls : List Int} {b : Nat} : firstB cls b = true ↔ ∀ a, a < b → cls.getD a 0 ≠ cls.getD b 0 := by
  simp [firstB, List.all_eq_true]
def repsTo (cls : List Int) (n : Nat) : List Int := ((List.range n).filter (firstB cls)).map Int.ofNat
theorem repsTo_succ (cls : List Int) (n : Nat) : repsTo cls (n + 1) = if firstB cls n = true then repsTo cls n ++ [(n : Int)] else repsTo cls n := by
  unfold repsTo
  rw [List.range_succ, List.filter_append]
  split
  · rename_i h; simp [h]
  · rename_i h; simp [h]
theorem repsTo_le (cls : List Int) (n : Nat) : (repsTo cls n).length ≤ n := by
  unfold repsTo
  rw [List.length_map]
  exact Nat.le_trans (List.length_filter_le _ _) (by simp)

theorem reps_ok (hO : M.O 70 = none) (hF : M.F 70 = some A70) {v vn vr : Value} {us : List Value} {S : Nat → Prop} {d : DfaD} {h : Heap} {K : KF} (h1n : 1 ≤ h.next) (hd : DfaV h S v vn vr us d)
  (hk : ∀ v' h', OwnV h' 5 v' ((repsTo d.cls 256).map (.int .u8)) → GrowP h h' → (bno v' = 0 ∨ h.next ≤ bno v') → K v' h') : WF M 70 [v] h K := by
  rw [WF_eqT 7 hO hF, hd.val]
  simp (maxSteps := 2000000) (disch := first | omega | assumption | (simp only [oneC_int, oneC_bool, oneC_str, oneC_ptr, oneC_sl, oneC_map]; done) | (simp only [List.length_cons, List.length_nil, List.length_set, List.length_map, List.length_replicate, List.length_append, List.length_take, List.length_drop, Int.toNat_natCast] <;> omega) | fail) only [vi, vb, vstr, rxc, rxo, Nat.reduceLeDiff, List.getElem?_cons_zero, List.getElem?_cons_succ, List.length_cons, List.length_nil, List.set_cons_zero, List.set_cons_succ, ↓reduceIte, Bool.not_true, Bool.not_false, true_and, and_true, not_true_eq_false, not_false_eq_true, decide_true, decide_false, Nat.reduceEqDiff, Nat.reduceAdd, Nat.reduceMul, Nat.reducePow, Int.reduceToNat, Int.reducePow, Nat.zero_add, Nat.mul_one, Int.toNat_natCast, A70, R70_0, dfaC_len hd.cls]
  obtain ⟨h1, e1, g1, n1, b1⟩ := boxed h (dfaC d.start d.cls vn vr) 34
  rw [e1]
  have hseen : (rl [(256, Value.bool false)]) = (List.replicate 256 false).map Value.bool := by
    show rep 256 (Value.bool false) [] = _
    rw [rep_eq]; simp
  simp (maxSteps := 2000000) (disch := first | omega | assumption | (simp only [oneC_int, oneC_bool, oneC_str, oneC_ptr, oneC_sl, oneC_map]; done) | (simp only [List.length_cons, List.length_nil, List.length_set, List.length_map, List.length_replicate, List.length_append, List.length_take, List.length_drop, Int.toNat_natCast] <;> omega) | fail) only [vi, vb, vstr, rxc, rxo, Nat.reduceLeDiff, List.getElem?_cons_zero, List.getElem?_cons_succ, List.length_cons, List.length_nil, List.set_cons_zero, List.set_cons_succ, ↓reduceIte, Bool.not_true, Bool.not_false, true_and, and_true, not_true_eq_false, not_false_eq_true, decide_true, decide_false, Nat.reduceEqDiff, Nat.reduceAdd, Nat.reduceMul, Nat.reducePow, Int.reduceToNat, Int.reducePow, Nat.zero_add, Nat.mul_one, Int.toNat_natCast, R70_1, R70_2, hseen, R70_3]
  refine WC_bloop 7 (fun m e h' => ∃ (i : Nat) (o : Value) (se : List Bool), m = 256 - i ∧ i ≤ 256 ∧ e.g 1 = .pointer (some ⟨h.next, 0, none⟩) ∧ e.g 3 = o ∧ e.g 4 = .pointer (some ⟨h1.next, 0, none⟩) ∧ e.g 7 = .int .i64 i ∧
      h'.at h.next = some (.cells (dfaC d.start d.cls vn vr) 34 true) ∧ h'.at h1.next = some (.cells (se.map .bool) 120 true) ∧ se.length = 256 ∧ OwnV h' 5 o ((repsTo d.cls i).map (.int .u8)) ∧ GrowP h h' ∧ (bno o = 0 ∨ h1.next < bno o) ∧ h1.next < h'.next ∧
      ∀ c : Nat, c < 256 → (se.getD c false = true ↔ ∃ b, b < i ∧ d.cls.getD b 0 = c))
    (fun e h' => ∃ o, e.g 3 = o ∧ OwnV h' 5 o ((repsTo d.cls 256).map (.int .u8)) ∧ GrowP h h' ∧ (bno o = 0 ∨ h1.next < bno o)) ?_ ?_ ?_
  · refine ⟨_, 0, .slice none 0 0, List.replicate 256 false, rfl, by omega, ?_, ?_, ?_, ?_, ?_, at_new_same, by simp, ⟨by show 0 < _; simp, .inl ⟨rfl, rfl⟩⟩, g1.p.new, .inl rfl, by simp, fun c hc => ?_⟩
    · simp (maxSteps := 2000000) (disch := first | omega | assumption | (simp only [oneC_int, oneC_bool, oneC_str, oneC_ptr, oneC_sl, oneC_map]; done) | (simp only [List.length_cons, List.length_nil, List.length_set, List.length_map, List.length_replicate, List.length_append, List.length_take, List.length_drop, Int.toNat_natCast] <;> omega) | fail) only [vi, vb, vstr, rxc, rxo, Nat.reduceLeDiff, List.getElem?_cons_zero, List.getElem?_cons_succ, List.length_cons, List.length_nil, List.set_cons_zero, List.set_cons_succ, ↓reduceIte, Bool.not_true, Bool.not_false, true_and, and_true, not_true_eq_false, not_false_eq_true, decide_true, decide_false, Nat.reduceEqDiff, Nat.reduceAdd, Nat.reduceMul, Nat.reducePow, Int.reduceToNat, Int.reducePow, Nat.zero_add, Nat.mul_one, Int.toNat_natCast]
    · simp (maxSteps := 2000000) (disch := first | omega | assumption | (simp only [oneC_int, oneC_bool, oneC_str, oneC_ptr, oneC_sl, oneC_map]; done) | (simp only [List.length_cons, List.length_nil, List.length_set, List.length_map, List.length_replicate, List.length_append, List.length_take, List.length_drop, Int.toNat_natCast] <;> omega) | fail) only [vi, vb, vstr, rxc, rxo, Nat.reduceLeDiff, List.getElem?_cons_zero, List.getElem?_cons_succ, List.length_cons, List.length_nil, List.set_cons_zero, List.set_cons_succ, ↓reduceIte, Bool.not_true, Bool.not_false, true_and, and_true, not_true_eq_false, not_false_eq_true, decide_true, decide_false, Nat.reduceEqDiff, Nat.reduceAdd, Nat.reduceMul, Nat.reducePow, Int.reduceToNat, Int.reducePow, Nat.zero_add, Nat.mul_one, Int.toNat_natCast]
    · simp (maxSteps := 2000000) (disch := first | omega | assumption | (simp only [oneC_int, oneC_bool, oneC_str, oneC_ptr, oneC_sl, oneC_map]; done) | (simp only [List.length_cons, List.length_nil, List.length_set, List.length_map, List.length_replicate, List.length_append, List.length_take, List.length_drop, Int.toNat_natCast] <;> omega) | fail) only [vi, vb, vstr, rxc, rxo, Nat.reduceLeDiff, List.getElem?_cons_zero, List.getElem?_cons_succ, List.length_cons, List.length_nil, List.set_cons_zero, List.set_cons_succ, ↓reduceIte, Bool.not_true, Bool.not_false, true_and, and_true, not_true_eq_false, not_false_eq_true, decide_true, decide_false, Nat.reduceEqDiff, Nat.reduceAdd, Nat.reduceMul, Nat.reducePow, Int.reduceToNat, Int.reducePow, Nat.zero_add, Nat.mul_one, Int.toNat_natCast]
    · simp (maxSteps := 2000000) (disch := first | omega | assumption | (simp only [oneC_int, oneC_bool, oneC_str, oneC_ptr, oneC_sl, oneC_map]; done) | (simp only [List.length_cons, List.length_nil, List.length_set, List.length_map, List.length_replicate, List.length_append, List.length_take, List.length_drop, Int.toNat_natCast] <;> omega) | fail) only [vi, vb, vstr, rxc, rxo, Nat.reduceLeDiff, List.getElem?_cons_zero, List.getElem?_cons_succ, List.length_cons, List.length_nil, List.set_cons_zero, List.set_cons_succ, ↓reduceIte, Bool.not_true, Bool.not_false, true_and, and_true, not_true_eq_false, not_false_eq_true, decide_true, decide_false, Nat.reduceEqDiff, Nat.reduceAdd, Nat.reduceMul, Nat.reducePow, Int.reduceToNat, Int.reducePow, Nat.zero_add, Nat.mul_one, Int.toNat_natCast]; rfl
    · rw [at_new_lt (by omega)]; exact b1
    · rw [getD_rep hc]; simp
  · rintro m e h' ⟨i, o, se, rfl, hi, e1', e3, e4, e7, hb, hse, hsl, ho, gp, hbo, hnx, hsee⟩
    simp (maxSteps := 2000000) (disch := first | omega | assumption | (simp only [oneC_int, oneC_bool, oneC_str, oneC_ptr, oneC_sl, oneC_map]; done) | (simp only [List.length_cons, List.length_nil, List.length_set, List.length_map, List.length_replicate, List.length_append, List.length_take, List.length_drop, Int.toNat_natCast] <;> omega) | fail) only [vi, vb, vstr, rxc, rxo, Nat.reduceLeDiff, List.getElem?_cons_zero, List.getElem?_cons_succ, List.length_cons, List.length_nil, List.set_cons_zero, List.set_cons_succ, ↓reduceIte, Bool.not_true, Bool.not_false, true_and, and_true, not_true_eq_false, not_false_eq_true, decide_true, decide_false, Nat.reduceEqDiff, Nat.reduceAdd, Nat.reduceMul, Nat.reducePow, Int.reduceToNat, Int.reducePow, Nat.zero_add, Nat.mul_one, Int.toNat_natCast, B70_0, R70_4, e1', e3, e4, e7]
    refine WCond_dec (fun hc => ?_) (fun hc => ?_)
    · have hcb := hd.byte i (by omega)
      have hseL : (se.map Value.bool).length = 256 := by simp [hsl]
      have hget : (se.map Value.bool)[(d.cls.getD i 0).toNat]? = some (.bool (se.getD (d.cls.getD i 0).toNat false)) := bools_get (by omega)
      have hfirst : firstB d.cls i = !(se.getD (d.cls.getD i 0).toNat false) := by
        rw [Bool.eq_iff_iff, firstB_iff]
        have := hsee (d.cls.getD i 0).toNat (by omega)
        constructor
        · intro hf
          cases hx : se.getD (d.cls.getD i 0).toNat false with
          | false => rfl
          | true =>
            obtain ⟨b, hb1, hb2⟩ := this.1 hx
            exact absurd (by omega) (hf b hb1)
        · intro hx a ha he
          have := this.2 ⟨a, ha, by omega⟩
          rw [this] at hx; cases hx
      have hrep := repsTo_succ d.cls i
      rw [hfirst] at hrep
      simp (maxSteps := 2000000) (disch := first | omega | assumption | (simp only [oneC_int, oneC_bool, oneC_str, oneC_ptr, oneC_sl, oneC_map]; done) | (simp only [List.length_cons, List.length_nil, List.length_set, List.length_map, List.length_replicate, List.length_append, List.length_take, List.length_drop, Int.toNat_natCast] <;> omega) | fail) only [vi, vb, vstr, rxc, rxo, Nat.reduceLeDiff, List.getElem?_cons_zero, List.getElem?_cons_succ, List.length_cons, List.length_nil, List.set_cons_zero, List.set_cons_succ, ↓reduceIte, Bool.not_true, Bool.not_false, true_and, and_true, not_true_eq_false, not_false_eq_true, decide_true, decide_false, Nat.reduceEqDiff, Nat.reduceAdd, Nat.reduceMul, Nat.reducePow, Int.reduceToNat, Int.reducePow, Nat.zero_add, Nat.mul_one, Int.toNat_natCast, R70_5, e1', e3, e4, e7, R70_6, hb, dfaC_cls hd.cls, R70_7, hse, hget, unV_not]
      refine WCond_split (fun hx => ?_) (fun hx => ?_)
      · have hxf : se.getD (d.cls.getD i 0).toNat false = false := by simpa using hx
        rw [hxf] at hrep
        simp only [Bool.not_false, if_true] at hrep
        simp (maxSteps := 2000000) (disch := first | omega | assumption | (simp only [oneC_int, oneC_bool, oneC_str, oneC_ptr, oneC_sl, oneC_map]; done) | (simp only [List.length_cons, List.length_nil, List.length_set, List.length_map, List.length_replicate, List.length_append, List.length_take, List.length_drop, Int.toNat_natCast] <;> omega) | fail) only [vi, vb, vstr, rxc, rxo, Nat.reduceLeDiff, List.getElem?_cons_zero, List.getElem?_cons_succ, List.length_cons, List.length_nil, List.set_cons_zero, List.set_cons_succ, ↓reduceIte, Bool.not_true, Bool.not_false, true_and, and_true, not_true_eq_false, not_false_eq_true, decide_true, decide_false, Nat.reduceEqDiff, Nat.reduceAdd, Nat.reduceMul, Nat.reducePow, Int.reduceToNat, Int.reducePow, Nat.zero_add, Nat.mul_one, Int.toNat_natCast, R70_8, e1', e3, e4, e7, R70_9, hse, hseL, bools_set, iConv_int]
        have cset : Chg h1.next h' (h'.set h1.next (some (.cells ((se.set (d.cls.getD i 0).toNat true).map .bool) 120 true))) := Chg.set
        have hol := repsTo_le d.cls i
        refine WI_app1c (by simp; omega) (ho.chg cset (by omega)) rfl (by simp; omega) fun v' h2 o2 c2 f2 => ?_
        simp (maxSteps := 2000000) (disch := first | omega | assumption | (simp only [oneC_int, oneC_bool, oneC_str, oneC_ptr, oneC_sl, oneC_map]; done) | (simp only [List.length_cons, List.length_nil, List.length_set, List.length_map, List.length_replicate, List.length_append, List.length_take, List.length_drop, Int.toNat_natCast] <;> omega) | fail) only [vi, vb, vstr, rxc, rxo, Nat.reduceLeDiff, List.getElem?_cons_zero, List.getElem?_cons_succ, List.length_cons, List.length_nil, List.set_cons_zero, List.set_cons_succ, ↓reduceIte, Bool.not_true, Bool.not_false, true_and, and_true, not_true_eq_false, not_false_eq_true, decide_true, decide_false, Nat.reduceEqDiff, Nat.reduceAdd, Nat.reduceMul, Nat.reducePow, Int.reduceToNat, Int.reducePow, Nat.zero_add, Nat.mul_one, Int.toNat_natCast, e1', e3, e4, e7, R70_10]
        simp only [Heap.next_set] at f2
        have hb0 := ho.1
        have hbl : h.next ≠ bno o := by omega
        have hn2 := c2.next
        simp only [Heap.next_set] at hn2
        refine ⟨_, by omega, i + 1, v', se.set (d.cls.getD i 0).toNat true, rfl, by omega, rfl, by simp, ?_, ?_, by simp [hsl], ?_, ?_, by omega, by omega, fun c hc' => ?_⟩
        · rw [c2.at_ _ (by simp; omega) hbl, at_set_ne (by omega)]; exact hb
        · rw [c2.at_ _ (by simp; omega) (by omega), at_set_same]
        · rw [hrep]; simpa using o2
        · exact (gp.chg cset (by omega)).chg c2 (by omega)
        · rw [getD_set (by omega), show (∃ b, b < i + 1 ∧ d.cls.getD b 0 = (c : Int)) ↔ ((∃ b, b < i ∧ d.cls.getD b 0 = (c : Int)) ∨ d.cls.getD i 0 = c) from ⟨fun ⟨b, hb1, hb2⟩ => by
            by_cases hbi : b < i
            · exact .inl ⟨b, hbi, hb2⟩
            · have : b = i := by omega
              subst this; exact .inr hb2, fun hh => by
            rcases hh with ⟨b, hb1, hb2⟩ | hh
            · exact ⟨b, by omega, hb2⟩
            · exact ⟨i, by omega, hh⟩⟩]
          by_cases hcc : (d.cls.getD i 0).toNat = c
          · rw [if_pos hcc]
            simp only [true_iff]
            right; omega
          · rw [if_neg hcc, hsee c hc']
            constructor
            · exact .inl
            · rintro (hh | hh)
              · exact hh
              · exact absurd (by omega) hcc
      · have hxt : se.getD (d.cls.getD i 0).toNat false = true := by simpa using hx
        rw [hxt] at hrep
        simp only [Bool.not_true, Bool.false_eq_true, if_false] at hrep
        simp (maxSteps := 2000000) (disch := first | omega | assumption | (simp only [oneC_int, oneC_bool, oneC_str, oneC_ptr, oneC_sl, oneC_map]; done) | (simp only [List.length_cons, List.length_nil, List.length_set, List.length_map, List.length_replicate, List.length_append, List.length_take, List.length_drop, Int.toNat_natCast] <;> omega) | fail) only [vi, vb, vstr, rxc, rxo, Nat.reduceLeDiff, List.getElem?_cons_zero, List.getElem?_cons_succ, List.length_cons, List.length_nil, List.set_cons_zero, List.set_cons_succ, ↓reduceIte, Bool.not_true, Bool.not_false, true_and, and_true, not_true_eq_false, not_false_eq_true, decide_true, decide_false, Nat.reduceEqDiff, Nat.reduceAdd, Nat.reduceMul, Nat.reducePow, Int.reduceToNat, Int.reducePow, Nat.zero_add, Nat.mul_one, Int.toNat_natCast, e1', e3, e4, e7, R70_10]
        refine ⟨_, by omega, i + 1, o, se, rfl, by omega, rfl, by simp, hb, hse, hsl, ?_, gp, hbo, hnx, fun c hc' => ?_⟩
        · rw [hrep]; exact ho
        · rw [hsee c hc']
          constructor
          · rintro ⟨b, hb1, hb2⟩; exact ⟨b, by omega, hb2⟩
          · rintro ⟨b, hb1, hb2⟩
            by_cases hbi : b < i
            · exact ⟨b, hbi, hb2⟩
            · have : b = i := by omega
              subst this
              obtain ⟨b', h1', h2'⟩ := (hsee (d.cls.getD b 0).toNat (by omega)).1 hxt
              exact ⟨b', h1', by omega⟩
    · have : i = 256 := by omega
      subst this
      simp (maxSteps := 2000000) (disch := first | omega | assumption | (simp only [oneC_int, oneC_bool, oneC_str, oneC_ptr, oneC_sl, oneC_map]; done) | (simp only [List.length_cons, List.length_nil, List.length_set, List.length_map, List.length_replicate, List.length_append, List.length_take, List.length_drop, Int.toNat_natCast] <;> omega) | fail) only [vi, vb, vstr, rxc, rxo, Nat.reduceLeDiff, List.getElem?_cons_zero, List.getElem?_cons_succ, List.length_cons, List.length_nil, List.set_cons_zero, List.set_cons_succ, ↓reduceIte, Bool.not_true, Bool.not_false, true_and, and_true, not_true_eq_false, not_false_eq_true, decide_true, decide_false, Nat.reduceEqDiff, Nat.reduceAdd, Nat.reduceMul, Nat.reducePow, Int.reduceToNat, Int.reducePow, Nat.zero_add, Nat.mul_one, Int.toNat_natCast, e3]
      exact ⟨o, rfl, ho, gp, hbo⟩
  · rintro e h' ⟨o, e3, ho, gp, hbo⟩
    simp (maxSteps := 2000000) (disch := first | omega | assumption | (simp only [oneC_int, oneC_bool, oneC_str, oneC_ptr, oneC_sl, oneC_map]; done) | (simp only [List.length_cons, List.length_nil, List.length_set, List.length_map, List.length_replicate, List.length_append, List.length_take, List.length_drop, Int.toNat_natCast] <;> omega) | fail) only [vi, vb, vstr, rxc, rxo, Nat.reduceLeDiff, List.getElem?_cons_zero, List.getElem?_cons_succ, List.length_cons, List.length_nil, List.set_cons_zero, List.set_cons_succ, ↓reduceIte, Bool.not_true, Bool.not_false, true_and, and_true, not_true_eq_false, not_false_eq_true, decide_true, decide_false, Nat.reduceEqDiff, Nat.reduceAdd, Nat.reduceMul, Nat.reducePow, Int.reduceToNat, Int.reducePow, Nat.zero_add, Nat.mul_one, Int.toNat_natCast, R70_11, e3]
    exact hk _ _ ho gp (by omega)
end Go.Rx

namespace Go.Rx
variable {M : Mach}
set_option maxRecDepth 4000
set_option linter.unusedSimpArgs false
set_option linter.unusedVariables false

/-- From here some text leads to a rule's end. -/
inductive Alv (ls : List (List Int)) (rl : List Int) : Nat → Prop
  | base (s : Nat) (hs : s < ls.length) (h : 0 ≤ rl.getD s 0) : Alv ls rl s
  | step (s j : Nat) (hs : s < ls.length) (hj : j < (ls.getD s []).length) (h0 : 0 ≤ (ls.getD s []).getD j 0) (h : Alv ls rl ((ls.getD s []).getD j 0).toNat) : Alv ls rl s

/-- Objects that share no block. -/
def Sep (l : List Value) : Prop := ∀ i j : Nat, i < l.length → j < l.length → i ≠ j → bno (l.getD i undef) = bno (l.getD j undef) → bno (l.getD i undef) = 0
theorem Sep.upd {l : List Value} {i : Nat} {v' : Value} {n : Nat} (hs : Sep l) (hi : i < l.length) (hn : ∀ j : Nat, j < l.length → bno (l.getD j undef) < n) (hv : bno v' = bno (l.getD i undef) ∨ n ≤ bno v') : Sep (l.set i v') := by
  intro a b ha hb hab h
  rw [List.length_set] at ha hb
  rw [getD_set hi] at h ⊢
  rw [getD_set hi] at h
  have na := hn a ha
  have nb := hn b hb
  by_cases e1 : i = a
  · rw [if_pos e1] at h ⊢
    subst e1
    rw [if_neg hab] at h
    rcases hv with hv | hv
    · have := hs i b ha hb hab (by omega); omega
    · omega
  · rw [if_neg e1] at h ⊢
    by_cases e2 : i = b
    · subst e2
      rw [if_pos rfl] at h
      rcases hv with hv | hv
      · exact hs a i ha hb hab (by omega)
      · omega
    · rw [if_neg e2] at h
      exact hs a b ha hb hab h

def cntF : List Bool → Nat
  | [] => 0
  | b :: l => (if b then 0 else 1) + cntF l
theorem cntF_set : ∀ {l : List Bool} {i : Nat}, i < l.length → l.getD i false = false → cntF (l.set i true) + 1 = cntF l
  | [], i, h, _ => by simp at h
  | b :: l, 0, _, hb => by
    have : b = false := hb
    subst this
    simp [cntF]; omega
  | b :: l, i + 1, h, hb => by
    have := cntF_set (l := l) (i := i) (by simpa using h) hb
    simp only [List.set_cons_succ, cntF]; omega
theorem cntF_le : ∀ (l : List Bool), cntF l ≤ l.length
  | [] => Nat.le_refl _
  | b :: l => by
    have := cntF_le l
    simp only [cntF, List.length_cons]
    split <;> omega

theorem mem_getD {l : List Int} {x : Int} (h : x ∈ l) : ∃ i : Nat, i < l.length ∧ l.getD i 0 = x := by
  obtain ⟨i, hi⟩ := mem_get h
  refine ⟨i, (List.getElem?_eq_some_iff.1 hi).1, ?_⟩
  rw [List.getD_eq_getElem?_getD, hi]; rfl
theorem mem_pop {l : List Int} (h : 0 < l.length) {x : Int} : x ∈ l ↔ x ∈ l.take (l.length - 1) ∨ x = l.getD (l.length - 1) 0 := by
  have e : l = l.take (l.length - 1) ++ [l.getD (l.length - 1) 0] := by
    have := List.take_append_drop (l.length - 1) l
    rw [drop_cons (by omega), List.drop_of_length_le (by omega)] at this
    exact this.symm
  constructor
  · intro hx
    rw [e] at hx
    simpa using hx
  · rintro (hx | hx)
    · exact List.mem_of_mem_take hx
    · rw [hx]; exact getD_mem (by omega)

/-- The back ways. -/
structure BackV (h : Heap) (n0 : Nat) (v vi vt : Value) (bs : List Value) (B : List (List Int)) (is : List Bool) (td : List Int) : Prop where
  own : OwnV h 32 v bs
  oi : OwnV h 4 vi (is.map .bool)
  ot : OwnV h 3 vt (td.map (.int .i64))
  len : bs.length = B.length
  row : ∀ i : Nat, i < B.length → OwnV h 3 (bs.getD i undef) ((B.getD i []).map (.int .i64))
  sep : Sep (v :: vi :: vt :: bs)
  fresh : ∀ i : Nat, i < bs.length + 3 → bno ((v :: vi :: vt :: bs).getD i undef) = 0 ∨ n0 ≤ bno ((v :: vi :: vt :: bs).getD i undef)
theorem BackV.low {h : Heap} {n0 : Nat} {v vi vt : Value} {bs : List Value} {B : List (List Int)} {is : List Bool} {td : List Int} (b : BackV h n0 v vi vt bs B is td) : ∀ j : Nat, j < (v :: vi :: vt :: bs).length → bno ((v :: vi :: vt :: bs).getD j undef) < h.next
  | 0, _ => b.own.1
  | 1, _ => b.oi.1
  | 2, _ => b.ot.1
  | j + 3, hj => (b.row j (by rw [← b.len]; simpa using hj)).1

section
variable {h h' : Heap} {n0 : Nat} {v vi vt : Value} {bs : List Value} {B : List (List Int)} {is : List Bool} {td : List Int}
/-- Another todo. -/
theorem BackV.todo (b : BackV h n0 v vi vt bs B is td) (hn : n0 ≤ h.next) {vt' : Value} {td' : List Int} (o : OwnV h' 3 vt' (td'.map (.int .i64))) (c : Chg (bno vt) h h') (f : bno vt' = bno vt ∨ h.next ≤ bno vt') : BackV h' n0 v vi vt' bs B is td' := by
  have hl := b.low
  have s := b.sep
  refine ⟨b.own.chg c ?_, b.oi.chg c ?_, o, b.len, fun i hi => (b.row i hi).chg c ?_, ?_, fun i hi => ?_⟩
  · by_cases e : bno v = bno vt
    · exact .inr (s 0 2 (by simp) (by simp) (by decide) e)
    · exact .inl e
  · by_cases e : bno vi = bno vt
    · exact .inr (s 1 2 (by simp) (by simp) (by decide) e)
    · exact .inl e
  · by_cases e : bno (bs.getD i undef) = bno vt
    · exact .inr (s (i + 3) 2 (by simp [b.len, hi]) (by simp) (by omega) e)
    · exact .inl e
  · have := s.upd (i := 2) (v' := vt') (n := h.next) (by simp) hl f
    simpa using this
  · have fr := b.fresh i hi
    match i with
    | 0 => exact fr
    | 1 => exact fr
    | 2 =>
      have fr : bno vt = 0 ∨ n0 ≤ bno vt := fr
      show bno vt' = 0 ∨ n0 ≤ bno vt'
      omega
    | i + 3 => exact fr
/-- Another mark. -/
theorem BackV.mark (b : BackV h n0 v vi vt bs B is td) {is' : List Bool} (o : OwnV h' 4 vi (is'.map .bool)) (c : Chg (bno vi) h h') : BackV h' n0 v vi vt bs B is' td := by
  have s := b.sep
  refine ⟨b.own.chg c ?_, o, b.ot.chg c ?_, b.len, fun i hi => (b.row i hi).chg c ?_, s, b.fresh⟩
  · by_cases e : bno v = bno vi
    · exact .inr (s 0 1 (by simp) (by simp) (by decide) e)
    · exact .inl e
  · by_cases e : bno vt = bno vi
    · exact .inr (s 2 1 (by simp) (by simp) (by decide) e)
    · exact .inl e
  · by_cases e : bno (bs.getD i undef) = bno vi
    · exact .inr (s (i + 3) 1 (by simp [b.len, hi]) (by simp) (by omega) e)
    · exact .inl e
/-- One more in a row. -/
theorem BackV.push (b : BackV h n0 v vi vt bs B is td) (hn : n0 ≤ h.next) {t : Nat} (ht : t < B.length) {h2 : Heap} {u : Value} {x : Int} (o : OwnV h' 3 u ((B.getD t []).map (.int .i64) ++ [.int .i64 x])) (c : Chg (bno (bs.getD t undef)) h h') (f : bno u = bno (bs.getD t undef) ∨ h.next ≤ bno u)
    (o2 : OwnV h2 32 v (bs.set t u)) (c2 : Chg (bno v) h' h2) : BackV h2 n0 v vi vt (bs.set t u) (B.set t (B.getD t [] ++ [x])) is td := by
  have hl := b.low
  have s := b.sep
  have htb : t < bs.length := by rw [b.len]; exact ht
  have s2 : Sep (v :: vi :: vt :: bs.set t u) := by
    have := s.upd (i := t + 3) (v' := u) (n := h.next) (by simp [htb]) hl f
    simpa using this
  refine ⟨o2, (b.oi.chg c ?_).chg c2 ?_, (b.ot.chg c ?_).chg c2 ?_, by simp [b.len], fun i hi => ?_, s2, fun i hi => ?_⟩
  · by_cases e : bno vi = bno (bs.getD t undef)
    · exact .inr (s 1 (t + 3) (by simp) (by simp [htb]) (by omega) e)
    · exact .inl e
  · by_cases e : bno vi = bno v
    · exact .inr (s 1 0 (by simp) (by simp) (by decide) e)
    · exact .inl e
  · by_cases e : bno vt = bno (bs.getD t undef)
    · exact .inr (s 2 (t + 3) (by simp) (by simp [htb]) (by omega) e)
    · exact .inl e
  · by_cases e : bno vt = bno v
    · exact .inr (s 2 0 (by simp) (by simp) (by decide) e)
    · exact .inl e
  · rw [List.length_set] at hi
    rw [getD_set htb, getD_set ht]
    by_cases e : t = i
    · subst e
      rw [if_pos rfl, if_pos rfl, List.map_append]
      refine OwnV.chg o c2 ?_
      by_cases e : bno u = bno v
      · have := s2 (t + 3) 0 (by simp [htb]) (by simp) (by omega) (by simp only [List.getD_cons_succ, List.getD_cons_zero]; rw [getD_set htb, if_pos rfl]; exact e)
        simp only [List.getD_cons_succ] at this
        rw [getD_set htb, if_pos rfl] at this
        exact .inr this
      · exact .inl e
    · rw [if_neg e, if_neg e]
      refine ((b.row i hi).chg c ?_).chg c2 ?_
      · by_cases e' : bno (bs.getD i undef) = bno (bs.getD t undef)
        · exact .inr (s (i + 3) (t + 3) (by simp [b.len, hi]) (by simp [htb]) (by omega) e')
        · exact .inl e'
      · by_cases e' : bno (bs.getD i undef) = bno v
        · exact .inr (s (i + 3) 0 (by simp [b.len, hi]) (by simp) (by omega) e')
        · exact .inl e'
  · have fr := b.fresh i (by simpa using hi)
    match i, hi with
    | 0, _ => exact fr
    | 1, _ => exact fr
    | 2, _ => exact fr
    | i + 3, hi =>
      have fr : bno (bs.getD i undef) = 0 ∨ n0 ≤ bno (bs.getD i undef) := fr
      show bno ((bs.set t u).getD i undef) = 0 ∨ n0 ≤ bno ((bs.set t u).getD i undef)
      rw [getD_set htb]
      have ft : bno (bs.getD t undef) = 0 ∨ n0 ≤ bno (bs.getD t undef) := b.fresh (t + 3) (by omega)
      split
      · omega
      · exact fr
end
end Go.Rx

namespace Go.Rx
variable {M : Mach}
set_option maxRecDepth 4000
set_option linter.unusedSimpArgs false
set_option linter.unusedVariables false

/-- What the back ways hold, so many ways gone through. -/
def BS (ls : List (List Int)) (i j : Nat) (B : List (List Int)) : Prop := ∀ t : Nat, t < B.length →
  (∀ x : Int, x ∈ B.getD t [] ↔ ∃ s j' : Nat, s < ls.length ∧ j' < (ls.getD s []).length ∧ (s < i ∨ (s = i ∧ j' < j)) ∧ (ls.getD s []).getD j' 0 = t ∧ x = s) ∧ (B.getD t []).length ≤ i * 256 + j
theorem BS.zero (ls : List (List Int)) (k : Nat) : BS ls 0 0 (List.replicate k []) := by
  intro t ht
  rw [List.length_replicate] at ht
  rw [getD_rep ht]
  exact ⟨fun x => ⟨fun h => by simp at h, fun ⟨s, j', _, _, h, _⟩ => by omega⟩, by simp⟩
theorem BS.skip {ls : List (List Int)} {i j : Nat} {B : List (List Int)} (h : BS ls i j B) (hn : (ls.getD i []).getD j 0 < 0) : BS ls i (j + 1) B := by
  intro t ht
  obtain ⟨h1, h2⟩ := h t ht
  refine ⟨fun x => ?_, by omega⟩
  rw [h1]
  constructor
  · rintro ⟨s, j', a1, a2, a3, a4, a5⟩
    exact ⟨s, j', a1, a2, by omega, a4, a5⟩
  · rintro ⟨s, j', a1, a2, a3, a4, a5⟩
    refine ⟨s, j', a1, a2, ?_, a4, a5⟩
    by_cases e : s = i ∧ j' = j
    · obtain ⟨rfl, rfl⟩ := e; omega
    · omega
theorem BS.push {ls : List (List Int)} {i j : Nat} {B : List (List Int)} (h : BS ls i j B) (hi : i < ls.length) (hj : j < (ls.getD i []).length) {t : Nat} (htB : t < B.length) (ht : (ls.getD i []).getD j 0 = t) : BS ls i (j + 1) (B.set t (B.getD t [] ++ [(i : Int)])) := by
  intro u hu
  rw [List.length_set] at hu
  obtain ⟨h1, h2⟩ := h u hu
  rw [getD_set htB]
  by_cases e : t = u
  · subst e
    rw [if_pos rfl]
    refine ⟨fun x => ?_, by rw [List.length_append, List.length_singleton]; omega⟩
    rw [List.mem_append, h1, List.mem_singleton]
    constructor
    · rintro (⟨s, j', a1, a2, a3, a4, a5⟩ | rfl)
      · exact ⟨s, j', a1, a2, by omega, a4, a5⟩
      · exact ⟨i, j, hi, hj, by omega, ht, rfl⟩
    · rintro ⟨s, j', a1, a2, a3, a4, a5⟩
      by_cases e : s = i ∧ j' = j
      · obtain ⟨rfl, rfl⟩ := e; exact .inr a5
      · exact .inl ⟨s, j', a1, a2, by omega, a4, a5⟩
  · rw [if_neg e]
    refine ⟨fun x => ?_, by omega⟩
    rw [h1]
    constructor
    · rintro ⟨s, j', a1, a2, a3, a4, a5⟩
      exact ⟨s, j', a1, a2, by omega, a4, a5⟩
    · rintro ⟨s, j', a1, a2, a3, a4, a5⟩
      refine ⟨s, j', a1, a2, ?_, a4, a5⟩
      by_cases e' : s = i ∧ j' = j
      · obtain ⟨rfl, rfl⟩ := e'; omega
      · omega
theorem BS.next {ls : List (List Int)} {i j : Nat} {B : List (List Int)} (h : BS ls i j B) (hj : (ls.getD i []).length ≤ j) (hj2 : j ≤ 256) : BS ls (i + 1) 0 B := by
  intro t ht
  obtain ⟨h1, h2⟩ := h t ht
  refine ⟨fun x => ?_, by omega⟩
  rw [h1]
  constructor
  · rintro ⟨s, j', a1, a2, a3, a4, a5⟩
    exact ⟨s, j', a1, a2, by omega, a4, a5⟩
  · rintro ⟨s, j', a1, a2, a3, a4, a5⟩
    refine ⟨s, j', a1, a2, ?_, a4, a5⟩
    by_cases e : s = i
    · subst e; omega
    · omega

theorem lives_ok (hO : M.O 72 = none) (hF : M.F 72 = some A72) {vn vr : Value} {us : List Value} {ls : List (List Int)} {rl : List Int} {S : Nat → Prop} {h : Heap} {K : KF} (h1n : 1 ≤ h.next) (hr : Rows h S vn us ls) (hq : SlV h vr (rl.map (.int .i64)))
  (hrl : rl.length = ls.length) (hk0 : ls.length ≤ 2048) (hw : ∀ i : Nat, i < ls.length → (ls.getD i []).length ≤ 256) (hlt : ∀ i : Nat, i < ls.length → ∀ j : Nat, j < (ls.getD i []).length → (ls.getD i []).getD j 0 < ls.length)
  (hk : ∀ v' h' (is : List Bool), OwnV h' 4 v' (is.map .bool) → GrowP h h' → (bno v' = 0 ∨ h.next ≤ bno v') → is.length = ls.length → (∀ s : Nat, s < ls.length → (is.getD s false = true ↔ Alv ls rl s)) → K v' h') : WF M 72 [vn, vr] h K := by
  rw [WF_eqT 13 hO hF]
  have r := hr.sl.r
  have hl := hr.len
  simp only [hl] at r
  simp (maxSteps := 2000000) (disch := first | omega | assumption | (simp only [oneC_int, oneC_bool, oneC_str, oneC_ptr, oneC_sl, oneC_map]; done) | (simp only [List.length_cons, List.length_nil, List.length_set, List.length_map, List.length_replicate, List.length_append, List.length_take, List.length_drop, Int.toNat_natCast] <;> omega) | fail) only [Go.Rx.vi, Go.Rx.vb, Go.Rx.vstr, rxc, rxo, Nat.reduceLeDiff, List.getElem?_cons_zero, List.getElem?_cons_succ, List.length_cons, List.length_nil, List.set_cons_zero, List.set_cons_succ, ↓reduceIte, Bool.not_true, Bool.not_false, true_and, and_true, not_true_eq_false, not_false_eq_true, decide_true, decide_false, Nat.reduceEqDiff, Nat.reduceAdd, Nat.reduceMul, Nat.reducePow, Int.reduceToNat, Int.reducePow, Nat.zero_add, Nat.mul_one, Int.toNat_natCast, A72, R72_0, R72_1, r]
  refine WI_makec h1n (by omega) (by omega) (by omega) (by omega) (by decide) fun vb h1 ob gb fb => ?_
  have nb := gb.next
  simp (maxSteps := 2000000) (disch := first | omega | assumption | (simp only [oneC_int, oneC_bool, oneC_str, oneC_ptr, oneC_sl, oneC_map]; done) | (simp only [List.length_cons, List.length_nil, List.length_set, List.length_map, List.length_replicate, List.length_append, List.length_take, List.length_drop, Int.toNat_natCast] <;> omega) | fail) only [Go.Rx.vi, Go.Rx.vb, Go.Rx.vstr, rxc, rxo, Nat.reduceLeDiff, List.getElem?_cons_zero, List.getElem?_cons_succ, List.length_cons, List.length_nil, List.set_cons_zero, List.set_cons_succ, ↓reduceIte, Bool.not_true, Bool.not_false, true_and, and_true, not_true_eq_false, not_false_eq_true, decide_true, decide_false, Nat.reduceEqDiff, Nat.reduceAdd, Nat.reduceMul, Nat.reducePow, Int.reduceToNat, Int.reducePow, Nat.zero_add, Nat.mul_one, Int.toNat_natCast, R72_2, r]
  refine WI_makec (by omega) (by omega) (by omega) (by omega) (by omega) (by decide) fun vi h2 oi gi fi => ?_
  have ni := gi.next
  have hbl := ob.1
  have hil := oi.1
  simp (maxSteps := 2000000) (disch := first | omega | assumption | (simp only [oneC_int, oneC_bool, oneC_str, oneC_ptr, oneC_sl, oneC_map]; done) | (simp only [List.length_cons, List.length_nil, List.length_set, List.length_map, List.length_replicate, List.length_append, List.length_take, List.length_drop, Int.toNat_natCast] <;> omega) | fail) only [Go.Rx.vi, Go.Rx.vb, Go.Rx.vstr, rxc, rxo, Nat.reduceLeDiff, List.getElem?_cons_zero, List.getElem?_cons_succ, List.length_cons, List.length_nil, List.set_cons_zero, List.set_cons_succ, ↓reduceIte, Bool.not_true, Bool.not_false, true_and, and_true, not_true_eq_false, not_false_eq_true, decide_true, decide_false, Nat.reduceEqDiff, Nat.reduceAdd, Nat.reduceMul, Nat.reducePow, Int.reduceToNat, Int.reducePow, Nat.zero_add, Nat.mul_one, Int.toNat_natCast, R72_3, R72_4, r]
  have g2 := gb.trans gi
  have fi1 : h.next ≤ bno vi := by omega
  simp only [Int.toNat_natCast, bools_rep] at ob oi
  have B0 : BackV h2 h.next vb vi (.slice none 0 0) (List.replicate ls.length (.slice none 0 0)) (List.replicate ls.length []) (List.replicate ls.length false) [] := by
    refine ⟨ob.gp gi, oi, ⟨by show 0 < _; omega, .inl ⟨rfl, rfl⟩⟩, by simp, fun i hi => ?_, ?_, ?_⟩
    · rw [List.length_replicate] at hi
      rw [getD_rep hi, getD_rep hi]
      exact ⟨by show 0 < _; omega, .inl ⟨rfl, rfl⟩⟩
    · have z : ∀ j : Nat, j < ls.length + 3 → 2 ≤ j → bno ((vb :: vi :: .slice none 0 0 :: List.replicate ls.length (.slice none 0 0)).getD j undef) = 0 := by
        intro j hj hj2
        match j with
        | 2 => rfl
        | j + 3 =>
          show bno ((List.replicate ls.length (Value.slice none 0 0)).getD j undef) = 0
          rw [getD_rep (by omega)]; rfl
      intro i j hi hj hij he
      simp at hi hj
      by_cases i2 : 2 ≤ i
      · exact z i (by omega) i2
      · by_cases j2 : 2 ≤ j
        · rw [he]; exact z j (by omega) j2
        · match i, j with
          | 0, 0 => omega
          | 1, 1 => omega
          | 0, 1 =>
            have he : bno vb = bno vi := he
            omega
          | 1, 0 =>
            have he : bno vi = bno vb := he
            omega
          | i + 2, _ => omega
          | 0, j + 2 => omega
          | 1, j + 2 => omega
    · intro i hi
      match i, hi with
      | 0, _ => right; show h.next ≤ bno vb; omega
      | 1, _ => right; show h.next ≤ bno vi; omega
      | 2, _ => exact .inl rfl
      | i + 3, hi =>
        left
        show bno ((List.replicate ls.length (Value.slice none 0 0)).getD i undef) = 0
        rw [getD_rep (by simp at hi; omega)]; rfl
  refine WC_bloop 13 (fun m e h' => ∃ (i : Nat) (vt : Value) (bs : List Value) (B : List (List Int)) (td : List Int), m = ls.length - i ∧ i ≤ ls.length ∧ e.g 1 = vr ∧ e.g 5 = vb ∧ e.g 6 = vi ∧ e.g 7 = vt ∧ e.g 19 = vn ∧ e.g 20 = .int .i64 ls.length ∧ e.g 21 = .int .i64 i ∧
      BackV h' h.next vb vi vt bs B (List.replicate ls.length false) td ∧ GrowP h h' ∧ B.length = ls.length ∧ td.length ≤ i ∧ BS ls i 0 B ∧ (∀ x ∈ td, 0 ≤ x ∧ x < ls.length ∧ 0 ≤ rl.getD x.toNat 0) ∧ (∀ s : Nat, s < i → 0 ≤ rl.getD s 0 → (s : Int) ∈ td))
    (fun e h' => ∃ (vt : Value) (bs : List Value) (B : List (List Int)) (td : List Int), e.g 5 = vb ∧ e.g 6 = vi ∧ e.g 7 = vt ∧
      BackV h' h.next vb vi vt bs B (List.replicate ls.length false) td ∧ GrowP h h' ∧ B.length = ls.length ∧ td.length ≤ ls.length ∧ BS ls ls.length 0 B ∧ (∀ x ∈ td, 0 ≤ x ∧ x < ls.length ∧ 0 ≤ rl.getD x.toNat 0) ∧ (∀ s : Nat, s < ls.length → 0 ≤ rl.getD s 0 → (s : Int) ∈ td)) ?_ ?_ ?_
  · refine ⟨_, 0, _, _, _, _, rfl, by omega, ?_, ?_, ?_, ?_, ?_, ?_, ?_, B0, g2, by simp, by simp, BS.zero _ _, by simp, by intro s hs; omega⟩
    all_goals simp (maxSteps := 2000000) (disch := first | omega | assumption | (simp only [oneC_int, oneC_bool, oneC_str, oneC_ptr, oneC_sl, oneC_map]; done) | (simp only [List.length_cons, List.length_nil, List.length_set, List.length_map, List.length_replicate, List.length_append, List.length_take, List.length_drop, Int.toNat_natCast] <;> omega) | fail) only [Go.Rx.vi, Go.Rx.vb, Go.Rx.vstr, rxc, rxo, Nat.reduceLeDiff, List.getElem?_cons_zero, List.getElem?_cons_succ, List.length_cons, List.length_nil, List.set_cons_zero, List.set_cons_succ, ↓reduceIte, Bool.not_true, Bool.not_false, true_and, and_true, not_true_eq_false, not_false_eq_true, decide_true, decide_false, Nat.reduceEqDiff, Nat.reduceAdd, Nat.reduceMul, Nat.reducePow, Int.reduceToNat, Int.reducePow, Nat.zero_add, Nat.mul_one, Int.toNat_natCast]
    rfl
  · rintro m e h' ⟨i, vt, bs, B, td, rfl, hi, e1, e5, e6, e7, e19, e20, e21, bv, gp, hB, htd, hbs, hin, hall⟩
    have r' := (hr.sl.gp gp).r
    have q' := (hq.gp gp).r
    simp only [hl, List.length_map, hrl] at r' q'
    simp (maxSteps := 2000000) (disch := first | omega | assumption | (simp only [oneC_int, oneC_bool, oneC_str, oneC_ptr, oneC_sl, oneC_map]; done) | (simp only [List.length_cons, List.length_nil, List.length_set, List.length_map, List.length_replicate, List.length_append, List.length_take, List.length_drop, Int.toNat_natCast] <;> omega) | fail) only [Go.Rx.vi, Go.Rx.vb, Go.Rx.vstr, rxc, rxo, Nat.reduceLeDiff, List.getElem?_cons_zero, List.getElem?_cons_succ, List.length_cons, List.length_nil, List.set_cons_zero, List.set_cons_succ, ↓reduceIte, Bool.not_true, Bool.not_false, true_and, and_true, not_true_eq_false, not_false_eq_true, decide_true, decide_false, Nat.reduceEqDiff, Nat.reduceAdd, Nat.reduceMul, Nat.reducePow, Int.reduceToNat, Int.reducePow, Nat.zero_add, Nat.mul_one, Int.toNat_natCast, B72_0, R72_5, e1, e5, e6, e7, e19, e20, e21]
    refine WCond_dec (fun hc => ?_) (fun hc => ?_)
    · have hrow := (hr.row i (by omega)).gp gp
      have rr := hrow.r
      simp only [List.length_map] at rr
      have hwi := hw i (by omega)
      simp (maxSteps := 2000000) (disch := first | omega | assumption | (simp only [oneC_int, oneC_bool, oneC_str, oneC_ptr, oneC_sl, oneC_map]; done) | (simp only [List.length_cons, List.length_nil, List.length_set, List.length_map, List.length_replicate, List.length_append, List.length_take, List.length_drop, Int.toNat_natCast] <;> omega) | fail) only [Go.Rx.vi, Go.Rx.vb, Go.Rx.vstr, rxc, rxo, Nat.reduceLeDiff, List.getElem?_cons_zero, List.getElem?_cons_succ, List.length_cons, List.length_nil, List.set_cons_zero, List.set_cons_succ, ↓reduceIte, Bool.not_true, Bool.not_false, true_and, and_true, not_true_eq_false, not_false_eq_true, decide_true, decide_false, Nat.reduceEqDiff, Nat.reduceAdd, Nat.reduceMul, Nat.reducePow, Int.reduceToNat, Int.reducePow, Nat.zero_add, Nat.mul_one, Int.toNat_natCast, R72_6, e1, e5, e6, e7, e19, e20, e21, r', vals_get (l := us), R72_7, rr]
      refine WC_bloop 13 (fun m e h' => ∃ (j : Nat) (bs : List Value) (B : List (List Int)), m = (ls.getD i []).length - j ∧ j ≤ (ls.getD i []).length ∧ e.g 1 = vr ∧ e.g 5 = vb ∧ e.g 6 = vi ∧ e.g 7 = vt ∧ e.g 8 = .int .i64 i ∧ e.g 19 = vn ∧ e.g 20 = .int .i64 ls.length ∧ e.g 21 = .int .i64 i ∧
          e.g 26 = us.getD i undef ∧ e.g 27 = .int .i64 (ls.getD i []).length ∧ e.g 28 = .int .i64 j ∧ BackV h' h.next vb vi vt bs B (List.replicate ls.length false) td ∧ GrowP h h' ∧ B.length = ls.length ∧ BS ls i j B)
        (fun e h' => ∃ (bs : List Value) (B : List (List Int)), e.g 1 = vr ∧ e.g 5 = vb ∧ e.g 6 = vi ∧ e.g 7 = vt ∧ e.g 8 = .int .i64 i ∧ e.g 19 = vn ∧ e.g 20 = .int .i64 ls.length ∧ e.g 21 = .int .i64 i ∧
          BackV h' h.next vb vi vt bs B (List.replicate ls.length false) td ∧ GrowP h h' ∧ B.length = ls.length ∧ BS ls i (ls.getD i []).length B) ?_ ?_ ?_
      · refine ⟨_, 0, bs, B, rfl, by omega, ?_, ?_, ?_, ?_, ?_, ?_, ?_, ?_, ?_, ?_, ?_, bv, gp, hB, hbs⟩
        all_goals simp (maxSteps := 2000000) (disch := first | omega | assumption | (simp only [oneC_int, oneC_bool, oneC_str, oneC_ptr, oneC_sl, oneC_map]; done) | (simp only [List.length_cons, List.length_nil, List.length_set, List.length_map, List.length_replicate, List.length_append, List.length_take, List.length_drop, Int.toNat_natCast] <;> omega) | fail) only [Go.Rx.vi, Go.Rx.vb, Go.Rx.vstr, rxc, rxo, Nat.reduceLeDiff, List.getElem?_cons_zero, List.getElem?_cons_succ, List.length_cons, List.length_nil, List.set_cons_zero, List.set_cons_succ, ↓reduceIte, Bool.not_true, Bool.not_false, true_and, and_true, not_true_eq_false, not_false_eq_true, decide_true, decide_false, Nat.reduceEqDiff, Nat.reduceAdd, Nat.reduceMul, Nat.reducePow, Int.reduceToNat, Int.reducePow, Nat.zero_add, Nat.mul_one, Int.toNat_natCast, e1, e5, e6, e7, e19, e20, e21]
        rfl
      · rintro m e h' ⟨j, bs, B, rfl, hj, e1, e5, e6, e7, e8, e19, e20, e21, e26, e27, e28, bv, gp, hB, hbs⟩
        have rr := ((hr.row i (by omega)).gp gp).r
        simp only [List.length_map] at rr
        simp (maxSteps := 2000000) (disch := first | omega | assumption | (simp only [oneC_int, oneC_bool, oneC_str, oneC_ptr, oneC_sl, oneC_map]; done) | (simp only [List.length_cons, List.length_nil, List.length_set, List.length_map, List.length_replicate, List.length_append, List.length_take, List.length_drop, Int.toNat_natCast] <;> omega) | fail) only [Go.Rx.vi, Go.Rx.vb, Go.Rx.vstr, rxc, rxo, Nat.reduceLeDiff, List.getElem?_cons_zero, List.getElem?_cons_succ, List.length_cons, List.length_nil, List.set_cons_zero, List.set_cons_succ, ↓reduceIte, Bool.not_true, Bool.not_false, true_and, and_true, not_true_eq_false, not_false_eq_true, decide_true, decide_false, Nat.reduceEqDiff, Nat.reduceAdd, Nat.reduceMul, Nat.reducePow, Int.reduceToNat, Int.reducePow, Nat.zero_add, Nat.mul_one, Int.toNat_natCast, B72_1, R72_8, e1, e5, e6, e7, e8, e19, e20, e21, e26, e27, e28]
        refine WCond_dec (fun hc2 => ?_) (fun hc2 => ?_)
        · have hx := hlt i (by omega) j (by omega)
          simp (maxSteps := 2000000) (disch := first | omega | assumption | (simp only [oneC_int, oneC_bool, oneC_str, oneC_ptr, oneC_sl, oneC_map]; done) | (simp only [List.length_cons, List.length_nil, List.length_set, List.length_map, List.length_replicate, List.length_append, List.length_take, List.length_drop, Int.toNat_natCast] <;> omega) | fail) only [Go.Rx.vi, Go.Rx.vb, Go.Rx.vstr, rxc, rxo, Nat.reduceLeDiff, List.getElem?_cons_zero, List.getElem?_cons_succ, List.length_cons, List.length_nil, List.set_cons_zero, List.set_cons_succ, ↓reduceIte, Bool.not_true, Bool.not_false, true_and, and_true, not_true_eq_false, not_false_eq_true, decide_true, decide_false, Nat.reduceEqDiff, Nat.reduceAdd, Nat.reduceMul, Nat.reducePow, Int.reduceToNat, Int.reducePow, Nat.zero_add, Nat.mul_one, Int.toNat_natCast, R72_9, e1, e5, e6, e7, e8, e19, e20, e21, e26, e27, e28, rr, ints_get, R72_10]
          refine WCond_dec (fun hc3 => ?_) (fun hc3 => ?_)
          · have rb := bv.own.sl.r
            have hbl := bv.len
            have htB : ((ls.getD i []).getD j 0).toNat < B.length := by omega
            simp only [hbl, hB] at rb
            have gn := gp.next
            simp (maxSteps := 2000000) (disch := first | omega | assumption | (simp only [oneC_int, oneC_bool, oneC_str, oneC_ptr, oneC_sl, oneC_map]; done) | (simp only [List.length_cons, List.length_nil, List.length_set, List.length_map, List.length_replicate, List.length_append, List.length_take, List.length_drop, Int.toNat_natCast] <;> omega) | fail) only [Go.Rx.vi, Go.Rx.vb, Go.Rx.vstr, rxc, rxo, Nat.reduceLeDiff, List.getElem?_cons_zero, List.getElem?_cons_succ, List.length_cons, List.length_nil, List.set_cons_zero, List.set_cons_succ, ↓reduceIte, Bool.not_true, Bool.not_false, true_and, and_true, not_true_eq_false, not_false_eq_true, decide_true, decide_false, Nat.reduceEqDiff, Nat.reduceAdd, Nat.reduceMul, Nat.reducePow, Int.reduceToNat, Int.reducePow, Nat.zero_add, Nat.mul_one, Int.toNat_natCast, R72_11, e1, e5, e6, e7, e8, e19, e20, e21, e26, e27, e28, rb, vals_get (l := bs)]
            refine WI_app1c (by omega) (bv.row _ htB) rfl (by have := (hbs _ htB).2; rw [List.length_map]; omega) fun u h3 o3 c3 f3 => ?_
            have s0 := bv.sep
            have hne : bno vb ≠ bno (bs.getD ((ls.getD i []).getD j 0).toNat undef) ∨ bno vb = 0 := by
              by_cases e : bno vb = bno (bs.getD ((ls.getD i []).getD j 0).toNat undef)
              · exact .inr (s0 0 (((ls.getD i []).getD j 0).toNat + 3) (by simp) (by simp only [List.length_cons]; omega) (by omega) e)
              · exact .inl e
            have ob3 := bv.own.chg c3 hne
            simp (maxSteps := 2000000) (disch := first | omega | assumption | (simp only [oneC_int, oneC_bool, oneC_str, oneC_ptr, oneC_sl, oneC_map]; done) | (simp only [List.length_cons, List.length_nil, List.length_set, List.length_map, List.length_replicate, List.length_append, List.length_take, List.length_drop, Int.toNat_natCast] <;> omega) | fail) only [Go.Rx.vi, Go.Rx.vb, Go.Rx.vstr, rxc, rxo, Nat.reduceLeDiff, List.getElem?_cons_zero, List.getElem?_cons_succ, List.length_cons, List.length_nil, List.set_cons_zero, List.set_cons_succ, ↓reduceIte, Bool.not_true, Bool.not_false, true_and, and_true, not_true_eq_false, not_false_eq_true, decide_true, decide_false, Nat.reduceEqDiff, Nat.reduceAdd, Nat.reduceMul, Nat.reducePow, Int.reduceToNat, Int.reducePow, Nat.zero_add, Nat.mul_one, Int.toNat_natCast, e1, e5, e6, e7, e8, e19, e20, e21, e26, e27, e28, rb]
            refine WI_storec ob3 (by omega) o3.sl.isSl fun h4 o4 c4 => ?_
            simp (maxSteps := 2000000) (disch := first | omega | assumption | (simp only [oneC_int, oneC_bool, oneC_str, oneC_ptr, oneC_sl, oneC_map]; done) | (simp only [List.length_cons, List.length_nil, List.length_set, List.length_map, List.length_replicate, List.length_append, List.length_take, List.length_drop, Int.toNat_natCast] <;> omega) | fail) only [Go.Rx.vi, Go.Rx.vb, Go.Rx.vstr, rxc, rxo, Nat.reduceLeDiff, List.getElem?_cons_zero, List.getElem?_cons_succ, List.length_cons, List.length_nil, List.set_cons_zero, List.set_cons_succ, ↓reduceIte, Bool.not_true, Bool.not_false, true_and, and_true, not_true_eq_false, not_false_eq_true, decide_true, decide_false, Nat.reduceEqDiff, Nat.reduceAdd, Nat.reduceMul, Nat.reducePow, Int.reduceToNat, Int.reducePow, Nat.zero_add, Nat.mul_one, Int.toNat_natCast, e1, e5, e6, e7, e8, e19, e20, e21, e26, e27, e28, R72_12]
            have fr := bv.fresh (((ls.getD i []).getD j 0).toNat + 3) (by omega)
            have fr0 := bv.fresh 0 (by omega)
            simp only [List.getD_cons_succ, List.getD_cons_zero] at fr fr0
            refine ⟨_, by omega, j + 1, _, _, rfl, by omega, rfl, bv.push gn htB o3 c3 f3 o4 c4, (gp.chg c3 fr).chg c4 fr0, by simp [hB], hbs.push (by omega) (by omega) htB (by omega)⟩
          · simp (maxSteps := 2000000) (disch := first | omega | assumption | (simp only [oneC_int, oneC_bool, oneC_str, oneC_ptr, oneC_sl, oneC_map]; done) | (simp only [List.length_cons, List.length_nil, List.length_set, List.length_map, List.length_replicate, List.length_append, List.length_take, List.length_drop, Int.toNat_natCast] <;> omega) | fail) only [Go.Rx.vi, Go.Rx.vb, Go.Rx.vstr, rxc, rxo, Nat.reduceLeDiff, List.getElem?_cons_zero, List.getElem?_cons_succ, List.length_cons, List.length_nil, List.set_cons_zero, List.set_cons_succ, ↓reduceIte, Bool.not_true, Bool.not_false, true_and, and_true, not_true_eq_false, not_false_eq_true, decide_true, decide_false, Nat.reduceEqDiff, Nat.reduceAdd, Nat.reduceMul, Nat.reducePow, Int.reduceToNat, Int.reducePow, Nat.zero_add, Nat.mul_one, Int.toNat_natCast, e1, e5, e6, e7, e8, e19, e20, e21, e26, e27, e28, R72_12]
            exact ⟨_, by omega, j + 1, bs, B, rfl, by omega, rfl, bv, gp, hB, hbs.skip (by omega)⟩
        · have : j = (ls.getD i []).length := by omega
          subst this
          simp (maxSteps := 2000000) (disch := first | omega | assumption | (simp only [oneC_int, oneC_bool, oneC_str, oneC_ptr, oneC_sl, oneC_map]; done) | (simp only [List.length_cons, List.length_nil, List.length_set, List.length_map, List.length_replicate, List.length_append, List.length_take, List.length_drop, Int.toNat_natCast] <;> omega) | fail) only [Go.Rx.vi, Go.Rx.vb, Go.Rx.vstr, rxc, rxo, Nat.reduceLeDiff, List.getElem?_cons_zero, List.getElem?_cons_succ, List.length_cons, List.length_nil, List.set_cons_zero, List.set_cons_succ, ↓reduceIte, Bool.not_true, Bool.not_false, true_and, and_true, not_true_eq_false, not_false_eq_true, decide_true, decide_false, Nat.reduceEqDiff, Nat.reduceAdd, Nat.reduceMul, Nat.reducePow, Int.reduceToNat, Int.reducePow, Nat.zero_add, Nat.mul_one, Int.toNat_natCast, e1, e5, e6, e7, e8, e19, e20, e21]
          exact ⟨bs, B, bv, gp, hB, hbs⟩
      · rintro e h' ⟨bs, B, e1, e5, e6, e7, e8, e19, e20, e21, bv, gp, hB, hbs⟩
        have q' := (hq.gp gp).r
        simp only [List.length_map, hrl] at q'
        have hbs' := hbs.next (Nat.le_refl _) hwi
        have gn := gp.next
        simp (maxSteps := 2000000) (disch := first | omega | assumption | (simp only [oneC_int, oneC_bool, oneC_str, oneC_ptr, oneC_sl, oneC_map]; done) | (simp only [List.length_cons, List.length_nil, List.length_set, List.length_map, List.length_replicate, List.length_append, List.length_take, List.length_drop, Int.toNat_natCast] <;> omega) | fail) only [Go.Rx.vi, Go.Rx.vb, Go.Rx.vstr, rxc, rxo, Nat.reduceLeDiff, List.getElem?_cons_zero, List.getElem?_cons_succ, List.length_cons, List.length_nil, List.set_cons_zero, List.set_cons_succ, ↓reduceIte, Bool.not_true, Bool.not_false, true_and, and_true, not_true_eq_false, not_false_eq_true, decide_true, decide_false, Nat.reduceEqDiff, Nat.reduceAdd, Nat.reduceMul, Nat.reducePow, Int.reduceToNat, Int.reducePow, Nat.zero_add, Nat.mul_one, Int.toNat_natCast, e1, e5, e6, e7, e8, e19, e20, e21, R72_13, q', ints_get]
        refine WCond_dec (fun hc3 => ?_) (fun hc3 => ?_)
        · simp (maxSteps := 2000000) (disch := first | omega | assumption | (simp only [oneC_int, oneC_bool, oneC_str, oneC_ptr, oneC_sl, oneC_map]; done) | (simp only [List.length_cons, List.length_nil, List.length_set, List.length_map, List.length_replicate, List.length_append, List.length_take, List.length_drop, Int.toNat_natCast] <;> omega) | fail) only [Go.Rx.vi, Go.Rx.vb, Go.Rx.vstr, rxc, rxo, Nat.reduceLeDiff, List.getElem?_cons_zero, List.getElem?_cons_succ, List.length_cons, List.length_nil, List.set_cons_zero, List.set_cons_succ, ↓reduceIte, Bool.not_true, Bool.not_false, true_and, and_true, not_true_eq_false, not_false_eq_true, decide_true, decide_false, Nat.reduceEqDiff, Nat.reduceAdd, Nat.reduceMul, Nat.reducePow, Int.reduceToNat, Int.reducePow, Nat.zero_add, Nat.mul_one, Int.toNat_natCast, R72_14, e1, e5, e6, e7, e8, e19, e20, e21]
          refine WI_app1c (by omega) bv.ot rfl (by simp; omega) fun u h3 o3 c3 f3 => ?_
          simp (maxSteps := 2000000) (disch := first | omega | assumption | (simp only [oneC_int, oneC_bool, oneC_str, oneC_ptr, oneC_sl, oneC_map]; done) | (simp only [List.length_cons, List.length_nil, List.length_set, List.length_map, List.length_replicate, List.length_append, List.length_take, List.length_drop, Int.toNat_natCast] <;> omega) | fail) only [Go.Rx.vi, Go.Rx.vb, Go.Rx.vstr, rxc, rxo, Nat.reduceLeDiff, List.getElem?_cons_zero, List.getElem?_cons_succ, List.length_cons, List.length_nil, List.set_cons_zero, List.set_cons_succ, ↓reduceIte, Bool.not_true, Bool.not_false, true_and, and_true, not_true_eq_false, not_false_eq_true, decide_true, decide_false, Nat.reduceEqDiff, Nat.reduceAdd, Nat.reduceMul, Nat.reducePow, Int.reduceToNat, Int.reducePow, Nat.zero_add, Nat.mul_one, Int.toNat_natCast, e1, e5, e6, e7, e8, e19, e20, e21, R72_15]
          have fr := bv.fresh 2 (by omega)
          simp only [List.getD_cons_succ, List.getD_cons_zero] at fr
          rw [ints_app] at o3
          refine ⟨_, by omega, i + 1, u, bs, B, td ++ [(i : Int)], rfl, by omega, rfl, rfl, bv.todo gn o3 c3 f3, gp.chg c3 fr, hB, by simp; omega, hbs', ?_, ?_⟩
          · intro x hx
            rcases List.mem_append.1 hx with hx | hx
            · exact hin x hx
            · simp at hx; subst hx; exact ⟨by omega, by omega, by simpa using hc3⟩
          · intro s hs h0
            by_cases e : s = i
            · subst e; simp
            · exact List.mem_append_left _ (hall s (by omega) h0)
        · simp (maxSteps := 2000000) (disch := first | omega | assumption | (simp only [oneC_int, oneC_bool, oneC_str, oneC_ptr, oneC_sl, oneC_map]; done) | (simp only [List.length_cons, List.length_nil, List.length_set, List.length_map, List.length_replicate, List.length_append, List.length_take, List.length_drop, Int.toNat_natCast] <;> omega) | fail) only [Go.Rx.vi, Go.Rx.vb, Go.Rx.vstr, rxc, rxo, Nat.reduceLeDiff, List.getElem?_cons_zero, List.getElem?_cons_succ, List.length_cons, List.length_nil, List.set_cons_zero, List.set_cons_succ, ↓reduceIte, Bool.not_true, Bool.not_false, true_and, and_true, not_true_eq_false, not_false_eq_true, decide_true, decide_false, Nat.reduceEqDiff, Nat.reduceAdd, Nat.reduceMul, Nat.reducePow, Int.reduceToNat, Int.reducePow, Nat.zero_add, Nat.mul_one, Int.toNat_natCast, e1, e5, e6, e7, e8, e19, e20, e21, R72_15]
          refine ⟨_, by omega, i + 1, vt, bs, B, td, rfl, by omega, rfl, rfl, bv, gp, hB, by omega, hbs', hin, ?_⟩
          intro s hs h0
          by_cases e : s = i
          · subst e; omega
          · exact hall s (by omega) h0
    · have : i = ls.length := by omega
      subst this
      simp (maxSteps := 2000000) (disch := first | omega | assumption | (simp only [oneC_int, oneC_bool, oneC_str, oneC_ptr, oneC_sl, oneC_map]; done) | (simp only [List.length_cons, List.length_nil, List.length_set, List.length_map, List.length_replicate, List.length_append, List.length_take, List.length_drop, Int.toNat_natCast] <;> omega) | fail) only [Go.Rx.vi, Go.Rx.vb, Go.Rx.vstr, rxc, rxo, Nat.reduceLeDiff, List.getElem?_cons_zero, List.getElem?_cons_succ, List.length_cons, List.length_nil, List.set_cons_zero, List.set_cons_succ, ↓reduceIte, Bool.not_true, Bool.not_false, true_and, and_true, not_true_eq_false, not_false_eq_true, decide_true, decide_false, Nat.reduceEqDiff, Nat.reduceAdd, Nat.reduceMul, Nat.reducePow, Int.reduceToNat, Int.reducePow, Nat.zero_add, Nat.mul_one, Int.toNat_natCast, e5, e6, e7]
      exact ⟨vt, bs, B, td, rfl, bv, gp, hB, htd, hbs, hin, hall⟩
  · rintro e h' ⟨vt, bs, B, td, e5, e6, e7, bv, gp, hB, htd, hbs, hin, hall⟩
    have hBk : ∀ t : Nat, t < B.length → (B.getD t []).length ≤ 524288 := fun t ht => by have := (hbs t ht).2; omega
    have hcl := cntF_le (List.replicate ls.length false)
    rw [List.length_replicate] at hcl
    simp (maxSteps := 2000000) (disch := first | omega | assumption | (simp only [oneC_int, oneC_bool, oneC_str, oneC_ptr, oneC_sl, oneC_map]; done) | (simp only [List.length_cons, List.length_nil, List.length_set, List.length_map, List.length_replicate, List.length_append, List.length_take, List.length_drop, Int.toNat_natCast] <;> omega) | fail) only [Go.Rx.vi, Go.Rx.vb, Go.Rx.vstr, rxc, rxo, Nat.reduceLeDiff, List.getElem?_cons_zero, List.getElem?_cons_succ, List.length_cons, List.length_nil, List.set_cons_zero, List.set_cons_succ, ↓reduceIte, Bool.not_true, Bool.not_false, true_and, and_true, not_true_eq_false, not_false_eq_true, decide_true, decide_false, Nat.reduceEqDiff, Nat.reduceAdd, Nat.reduceMul, Nat.reducePow, Int.reduceToNat, Int.reducePow, Nat.zero_add, Nat.mul_one, Int.toNat_natCast]
    refine WC_bloop 13 (fun m e h' => ∃ (is : List Bool) (td : List Int) (vt : Value), m = td.length + cntF is * 1048576 ∧ td.length + cntF is * 1048576 ≤ ls.length + ls.length * 1048576 ∧ e.g 5 = vb ∧ e.g 6 = vi ∧ e.g 7 = vt ∧
        BackV h' h.next vb vi vt bs B is td ∧ GrowP h h' ∧ is.length = ls.length ∧ (∀ x ∈ td, 0 ≤ x ∧ x < ls.length ∧ Alv ls rl x.toNat) ∧ (∀ s : Nat, s < ls.length → is.getD s false = true → Alv ls rl s) ∧
        (∀ s : Nat, s < ls.length → 0 ≤ rl.getD s 0 → is.getD s false = true ∨ (s : Int) ∈ td) ∧ (∀ t : Nat, t < ls.length → is.getD t false = true → ∀ x ∈ B.getD t [], is.getD x.toNat false = true ∨ x ∈ td))
      (fun e h' => ∃ (is : List Bool), e.g 6 = vi ∧ OwnV h' 4 vi (is.map .bool) ∧ GrowP h h' ∧ is.length = ls.length ∧ ∀ s : Nat, s < ls.length → (is.getD s false = true ↔ Alv ls rl s)) ?_ ?_ ?_
    · refine ⟨_, _, td, vt, rfl, by omega, ?_, ?_, ?_, bv, gp, by simp, ?_, ?_, ?_, ?_⟩
      · simp (maxSteps := 2000000) (disch := first | omega | assumption | (simp only [oneC_int, oneC_bool, oneC_str, oneC_ptr, oneC_sl, oneC_map]; done) | (simp only [List.length_cons, List.length_nil, List.length_set, List.length_map, List.length_replicate, List.length_append, List.length_take, List.length_drop, Int.toNat_natCast] <;> omega) | fail) only [Go.Rx.vi, Go.Rx.vb, Go.Rx.vstr, rxc, rxo, Nat.reduceLeDiff, List.getElem?_cons_zero, List.getElem?_cons_succ, List.length_cons, List.length_nil, List.set_cons_zero, List.set_cons_succ, ↓reduceIte, Bool.not_true, Bool.not_false, true_and, and_true, not_true_eq_false, not_false_eq_true, decide_true, decide_false, Nat.reduceEqDiff, Nat.reduceAdd, Nat.reduceMul, Nat.reducePow, Int.reduceToNat, Int.reducePow, Nat.zero_add, Nat.mul_one, Int.toNat_natCast, e5]
      · simp (maxSteps := 2000000) (disch := first | omega | assumption | (simp only [oneC_int, oneC_bool, oneC_str, oneC_ptr, oneC_sl, oneC_map]; done) | (simp only [List.length_cons, List.length_nil, List.length_set, List.length_map, List.length_replicate, List.length_append, List.length_take, List.length_drop, Int.toNat_natCast] <;> omega) | fail) only [Go.Rx.vi, Go.Rx.vb, Go.Rx.vstr, rxc, rxo, Nat.reduceLeDiff, List.getElem?_cons_zero, List.getElem?_cons_succ, List.length_cons, List.length_nil, List.set_cons_zero, List.set_cons_succ, ↓reduceIte, Bool.not_true, Bool.not_false, true_and, and_true, not_true_eq_false, not_false_eq_true, decide_true, decide_false, Nat.reduceEqDiff, Nat.reduceAdd, Nat.reduceMul, Nat.reducePow, Int.reduceToNat, Int.reducePow, Nat.zero_add, Nat.mul_one, Int.toNat_natCast, e6]
      · simp (maxSteps := 2000000) (disch := first | omega | assumption | (simp only [oneC_int, oneC_bool, oneC_str, oneC_ptr, oneC_sl, oneC_map]; done) | (simp only [List.length_cons, List.length_nil, List.length_set, List.length_map, List.length_replicate, List.length_append, List.length_take, List.length_drop, Int.toNat_natCast] <;> omega) | fail) only [Go.Rx.vi, Go.Rx.vb, Go.Rx.vstr, rxc, rxo, Nat.reduceLeDiff, List.getElem?_cons_zero, List.getElem?_cons_succ, List.length_cons, List.length_nil, List.set_cons_zero, List.set_cons_succ, ↓reduceIte, Bool.not_true, Bool.not_false, true_and, and_true, not_true_eq_false, not_false_eq_true, decide_true, decide_false, Nat.reduceEqDiff, Nat.reduceAdd, Nat.reduceMul, Nat.reducePow, Int.reduceToNat, Int.reducePow, Nat.zero_add, Nat.mul_one, Int.toNat_natCast, e7]
      · intro x hx
        obtain ⟨a, b, c⟩ := hin x hx
        exact ⟨a, b, .base _ (by omega) c⟩
      · intro s hs h0
        rw [getD_rep hs] at h0; cases h0
      · intro s hs h0
        exact .inr (hall s hs h0)
      · intro s hs h0
        rw [getD_rep hs] at h0; cases h0
    · rintro m e h' ⟨is, td, vt, rfl, hpot, e5, e6, e7, bv, gp, hil', hin, hsnd, hc1, hc2⟩
      have rt := bv.ot.sl.r
      simp only [List.length_map] at rt
      simp (maxSteps := 2000000) (disch := first | omega | assumption | (simp only [oneC_int, oneC_bool, oneC_str, oneC_ptr, oneC_sl, oneC_map]; done) | (simp only [List.length_cons, List.length_nil, List.length_set, List.length_map, List.length_replicate, List.length_append, List.length_take, List.length_drop, Int.toNat_natCast] <;> omega) | fail) only [Go.Rx.vi, Go.Rx.vb, Go.Rx.vstr, rxc, rxo, Nat.reduceLeDiff, List.getElem?_cons_zero, List.getElem?_cons_succ, List.length_cons, List.length_nil, List.set_cons_zero, List.set_cons_succ, ↓reduceIte, Bool.not_true, Bool.not_false, true_and, and_true, not_true_eq_false, not_false_eq_true, decide_true, decide_false, Nat.reduceEqDiff, Nat.reduceAdd, Nat.reduceMul, Nat.reducePow, Int.reduceToNat, Int.reducePow, Nat.zero_add, Nat.mul_one, Int.toNat_natCast, B72_2, R72_16, e5, e6, e7, rt]
      refine WCond_dec (fun hc => ?_) (fun hc => ?_)
      · have ex : ((td.length : Int) - 1).toNat = td.length - 1 := by omega
        obtain ⟨x0, x1, x2⟩ := hin (td.getD (td.length - 1) 0) (getD_mem (by omega))
        have gn := gp.next
        simp (maxSteps := 2000000) (disch := first | omega | assumption | (simp only [oneC_int, oneC_bool, oneC_str, oneC_ptr, oneC_sl, oneC_map]; done) | (simp only [List.length_cons, List.length_nil, List.length_set, List.length_map, List.length_replicate, List.length_append, List.length_take, List.length_drop, Int.toNat_natCast] <;> omega) | fail) only [Go.Rx.vi, Go.Rx.vb, Go.Rx.vstr, rxc, rxo, Nat.reduceLeDiff, List.getElem?_cons_zero, List.getElem?_cons_succ, List.length_cons, List.length_nil, List.set_cons_zero, List.set_cons_succ, ↓reduceIte, Bool.not_true, Bool.not_false, true_and, and_true, not_true_eq_false, not_false_eq_true, decide_true, decide_false, Nat.reduceEqDiff, Nat.reduceAdd, Nat.reduceMul, Nat.reducePow, Int.reduceToNat, Int.reducePow, Nat.zero_add, Nat.mul_one, Int.toNat_natCast, R72_17, e5, e6, e7, rt, ex, ints_get, R72_18]
        refine WI_cutTo bv.ot (by omega) (by rw [List.length_map]; omega) fun vt' ot' ft' => ?_
        rw [ex, ← List.map_take] at ot'
        have bv1 := bv.todo gn ot' (Chg.refl _ _) (.inl ft')
        have ri := bv.oi.sl.r
        simp only [List.length_map, hil'] at ri
        have hpop := fun y => mem_pop (l := td) (by omega) (x := y)
        have htl : (td.take (td.length - 1)).length = td.length - 1 := by rw [List.length_take]; omega
        have hisx : (td.getD (td.length - 1) 0).toNat < is.length := by omega
        simp (maxSteps := 2000000) (disch := first | omega | assumption | (simp only [oneC_int, oneC_bool, oneC_str, oneC_ptr, oneC_sl, oneC_map]; done) | (simp only [List.length_cons, List.length_nil, List.length_set, List.length_map, List.length_replicate, List.length_append, List.length_take, List.length_drop, Int.toNat_natCast] <;> omega) | fail) only [Go.Rx.vi, Go.Rx.vb, Go.Rx.vstr, rxc, rxo, Nat.reduceLeDiff, List.getElem?_cons_zero, List.getElem?_cons_succ, List.length_cons, List.length_nil, List.set_cons_zero, List.set_cons_succ, ↓reduceIte, Bool.not_true, Bool.not_false, true_and, and_true, not_true_eq_false, not_false_eq_true, decide_true, decide_false, Nat.reduceEqDiff, Nat.reduceAdd, Nat.reduceMul, Nat.reducePow, Int.reduceToNat, Int.reducePow, Nat.zero_add, Nat.mul_one, Int.toNat_natCast, e5, e6, e7, R72_19, ri, bools_get, unV_not]
        refine WCond_split (fun hx => ?_) (fun hx => ?_)
        · have hxf : is.getD (td.getD (td.length - 1) 0).toNat false = false := by simpa using hx
          have hcnt := cntF_set hisx hxf
          simp (maxSteps := 2000000) (disch := first | omega | assumption | (simp only [oneC_int, oneC_bool, oneC_str, oneC_ptr, oneC_sl, oneC_map]; done) | (simp only [List.length_cons, List.length_nil, List.length_set, List.length_map, List.length_replicate, List.length_append, List.length_take, List.length_drop, Int.toNat_natCast] <;> omega) | fail) only [Go.Rx.vi, Go.Rx.vb, Go.Rx.vstr, rxc, rxo, Nat.reduceLeDiff, List.getElem?_cons_zero, List.getElem?_cons_succ, List.length_cons, List.length_nil, List.set_cons_zero, List.set_cons_succ, ↓reduceIte, Bool.not_true, Bool.not_false, true_and, and_true, not_true_eq_false, not_false_eq_true, decide_true, decide_false, Nat.reduceEqDiff, Nat.reduceAdd, Nat.reduceMul, Nat.reducePow, Int.reduceToNat, Int.reducePow, Nat.zero_add, Nat.mul_one, Int.toNat_natCast, R72_20, e5, e6, e7, ri]
          refine WI_storec bv1.oi (by rw [List.length_map]; omega) rfl fun h3 o3 c3 => ?_
          rw [bools_set] at o3
          have bv2 := bv1.mark o3 c3
          have fr1 := bv1.fresh 1 (by omega)
          simp only [List.getD_cons_succ, List.getD_cons_zero] at fr1
          have gp3 := gp.chg c3 fr1
          have gn3 := gp3.next
          have rb := bv2.own.sl.r
          have hbl2 := bv2.len
          have htB : (td.getD (td.length - 1) 0).toNat < B.length := by omega
          simp only [hbl2, hB] at rb
          have hsz := hBk _ htB
          simp (maxSteps := 2000000) (disch := first | omega | assumption | (simp only [oneC_int, oneC_bool, oneC_str, oneC_ptr, oneC_sl, oneC_map]; done) | (simp only [List.length_cons, List.length_nil, List.length_set, List.length_map, List.length_replicate, List.length_append, List.length_take, List.length_drop, Int.toNat_natCast] <;> omega) | fail) only [Go.Rx.vi, Go.Rx.vb, Go.Rx.vstr, rxc, rxo, Nat.reduceLeDiff, List.getElem?_cons_zero, List.getElem?_cons_succ, List.length_cons, List.length_nil, List.set_cons_zero, List.set_cons_succ, ↓reduceIte, Bool.not_true, Bool.not_false, true_and, and_true, not_true_eq_false, not_false_eq_true, decide_true, decide_false, Nat.reduceEqDiff, Nat.reduceAdd, Nat.reduceMul, Nat.reducePow, Int.reduceToNat, Int.reducePow, Nat.zero_add, Nat.mul_one, Int.toNat_natCast, R72_21, e5, e6, e7, rb, vals_get (l := bs)]
          refine WI_appsc (by omega) bv2.ot (bv2.row _ htB).sl (by intro y hy; obtain ⟨z, _, rfl⟩ := List.mem_map.1 hy; rfl) (by rw [List.length_map, List.length_map, htl]; omega) fun vt3 h4 o4 c4 f4 => ?_
          rw [← List.map_append] at o4
          have bv3 := bv2.todo gn3 o4 c4 f4
          have fr2 := bv2.fresh 2 (by omega)
          simp only [List.getD_cons_succ, List.getD_cons_zero] at fr2
          simp (maxSteps := 2000000) (disch := first | omega | assumption | (simp only [oneC_int, oneC_bool, oneC_str, oneC_ptr, oneC_sl, oneC_map]; done) | (simp only [List.length_cons, List.length_nil, List.length_set, List.length_map, List.length_replicate, List.length_append, List.length_take, List.length_drop, Int.toNat_natCast] <;> omega) | fail) only [Go.Rx.vi, Go.Rx.vb, Go.Rx.vstr, rxc, rxo, Nat.reduceLeDiff, List.getElem?_cons_zero, List.getElem?_cons_succ, List.length_cons, List.length_nil, List.set_cons_zero, List.set_cons_succ, ↓reduceIte, Bool.not_true, Bool.not_false, true_and, and_true, not_true_eq_false, not_false_eq_true, decide_true, decide_false, Nat.reduceEqDiff, Nat.reduceAdd, Nat.reduceMul, Nat.reducePow, Int.reduceToNat, Int.reducePow, Nat.zero_add, Nat.mul_one, Int.toNat_natCast, e5, e6, e7]
          refine ⟨_, ?_, is.set (td.getD (td.length - 1) 0).toNat true, td.take (td.length - 1) ++ B.getD (td.getD (td.length - 1) 0).toNat [], vt3, rfl, ?_, rfl, bv3, gp3.chg c4 fr2, by simp [hil'], ?_, ?_, ?_, ?_⟩
          · rw [List.length_append, htl]; omega
          · rw [List.length_append, htl]; omega
          · intro y hy
            rcases List.mem_append.1 hy with hy | hy
            · exact hin y ((hpop y).2 (.inl hy))
            · obtain ⟨s, j, a1, a2, a3, a4, a5⟩ := ((hbs _ htB).1 y).1 hy
              subst a5
              refine ⟨by omega, by omega, ?_⟩
              refine .step _ j (by omega) (by simpa using a2) (by simp only [Int.toNat_natCast]; omega) ?_
              simp only [Int.toNat_natCast]
              rw [a4, Int.toNat_natCast]
              exact x2
          · intro s hs
            rw [getD_set hisx]
            split
            · rename_i he; subst he; intro _; exact x2
            · exact hsnd s hs
          · intro s hs h0
            rw [getD_set hisx]
            split
            · exact .inl rfl
            · rename_i hne
              rcases hc1 s hs h0 with hh | hh
              · exact .inl hh
              · rcases (hpop _).1 hh with hh | hh
                · exact .inr (List.mem_append_left _ hh)
                · omega
          · intro t ht
            rw [getD_set hisx]
            intro hh y hy
            obtain ⟨s, j, a1, a2, a3, a4, a5⟩ := ((hbs t (by omega)).1 y).1 hy
            by_cases he : (td.getD (td.length - 1) 0).toNat = t
            · subst he
              exact .inr (List.mem_append_right _ hy)
            · rw [if_neg he] at hh
              rw [getD_set hisx]
              split
              · exact .inl rfl
              · rename_i hne
                rcases hc2 t ht hh y hy with hh | hh
                · exact .inl hh
                · rcases (hpop _).1 hh with hh | hh
                  · exact .inr (List.mem_append_left _ hh)
                  · exact absurd (by rw [hh]) hne
        · have hxt : is.getD (td.getD (td.length - 1) 0).toNat false = true := by simpa using hx
          simp (maxSteps := 2000000) (disch := first | omega | assumption | (simp only [oneC_int, oneC_bool, oneC_str, oneC_ptr, oneC_sl, oneC_map]; done) | (simp only [List.length_cons, List.length_nil, List.length_set, List.length_map, List.length_replicate, List.length_append, List.length_take, List.length_drop, Int.toNat_natCast] <;> omega) | fail) only [Go.Rx.vi, Go.Rx.vb, Go.Rx.vstr, rxc, rxo, Nat.reduceLeDiff, List.getElem?_cons_zero, List.getElem?_cons_succ, List.length_cons, List.length_nil, List.set_cons_zero, List.set_cons_succ, ↓reduceIte, Bool.not_true, Bool.not_false, true_and, and_true, not_true_eq_false, not_false_eq_true, decide_true, decide_false, Nat.reduceEqDiff, Nat.reduceAdd, Nat.reduceMul, Nat.reducePow, Int.reduceToNat, Int.reducePow, Nat.zero_add, Nat.mul_one, Int.toNat_natCast, e5, e6, e7]
          refine ⟨_, ?_, is, td.take (td.length - 1), vt', rfl, ?_, rfl, bv1, gp, hil', ?_, hsnd, ?_, ?_⟩
          · rw [htl]; omega
          · rw [htl]; omega
          · intro y hy
            exact hin y ((hpop y).2 (.inl hy))
          · intro s hs h0
            rcases hc1 s hs h0 with hh | hh
            · exact .inl hh
            · rcases (hpop _).1 hh with hh | hh
              · exact .inr hh
              · left; rw [← hh] at hxt; simpa using hxt
          · intro t ht hh y hy
            rcases hc2 t ht hh y hy with hh | hh
            · exact .inl hh
            · rcases (hpop _).1 hh with hh | hh
              · exact .inr hh
              · left; rw [← hh] at hxt; exact hxt
      · have ht0 : td = [] := List.length_eq_zero_iff.1 (by omega)
        subst ht0
        simp (maxSteps := 2000000) (disch := first | omega | assumption | (simp only [oneC_int, oneC_bool, oneC_str, oneC_ptr, oneC_sl, oneC_map]; done) | (simp only [List.length_cons, List.length_nil, List.length_set, List.length_map, List.length_replicate, List.length_append, List.length_take, List.length_drop, Int.toNat_natCast] <;> omega) | fail) only [Go.Rx.vi, Go.Rx.vb, Go.Rx.vstr, rxc, rxo, Nat.reduceLeDiff, List.getElem?_cons_zero, List.getElem?_cons_succ, List.length_cons, List.length_nil, List.set_cons_zero, List.set_cons_succ, ↓reduceIte, Bool.not_true, Bool.not_false, true_and, and_true, not_true_eq_false, not_false_eq_true, decide_true, decide_false, Nat.reduceEqDiff, Nat.reduceAdd, Nat.reduceMul, Nat.reducePow, Int.reduceToNat, Int.reducePow, Nat.zero_add, Nat.mul_one, Int.toNat_natCast, e6]
        refine ⟨is, bv.oi, gp, hil', fun s hs => ⟨hsnd s hs, fun ha => ?_⟩⟩
        clear hsnd hin
        induction ha with
        | base s hs0 h0 =>
          rcases hc1 s hs0 h0 with hh | hh
          · exact hh
          · simp at hh
        | step s j hs0 hj h0 ha ih =>
          have hlt' := hlt s hs0 j hj
          have hm := ih (by omega)
          have htB : ((ls.getD s []).getD j 0).toNat < B.length := by omega
          have := ((hbs _ htB).1 (s : Int)).2 ⟨s, j, hs0, hj, by omega, by omega, rfl⟩
          rcases hc2 _ (by omega) hm _ this with hh | hh
          · simpa using hh
          · simp at hh
    · rintro e h' ⟨is, e6, oi', gp', hil', hfin⟩
      simp (maxSteps := 2000000) (disch := first | omega | assumption | (simp only [oneC_int, oneC_bool, oneC_str, oneC_ptr, oneC_sl, oneC_map]; done) | (simp only [List.length_cons, List.length_nil, List.length_set, List.length_map, List.length_replicate, List.length_append, List.length_take, List.length_drop, Int.toNat_natCast] <;> omega) | fail) only [Go.Rx.vi, Go.Rx.vb, Go.Rx.vstr, rxc, rxo, Nat.reduceLeDiff, List.getElem?_cons_zero, List.getElem?_cons_succ, List.length_cons, List.length_nil, List.set_cons_zero, List.set_cons_succ, ↓reduceIte, Bool.not_true, Bool.not_false, true_and, and_true, not_true_eq_false, not_false_eq_true, decide_true, decide_false, Nat.reduceEqDiff, Nat.reduceAdd, Nat.reduceMul, Nat.reducePow, Int.reduceToNat, Int.reducePow, Nat.zero_add, Nat.mul_one, Int.toNat_natCast, R72_22, e6]
      exact hk _ _ is oi' gp' (.inr fi1) hil' hfin
end Go.Rx
