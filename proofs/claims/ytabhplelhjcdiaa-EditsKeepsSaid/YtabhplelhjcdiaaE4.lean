/- Contracts of functions of the given program, over the abstract machine. -/
import Derived.Test.YtabhplelhjcdiaaE3
namespace Go.Rx
variable {M : Mach}
set_option maxRecDepth 4000
set_option linter.unusedSimpArgs false

theorem keeps_ok (hm : M.Mono) (hO37 : M.O 37 = none) (hF37 : M.F 37 = some A37) (hO12 : M.O 12 = none) (hF12 : M.F 12 = some A12)
  (hO38 : M.O 38 = none) (hF38 : M.F 38 = some A38) (hO39 : M.O 39 = none) (hF39 : M.F 39 = some A39) (hO14 : M.O 14 = none) (hF14 : M.F 14 = some A14)
  (hal : ∀ h (K : KF), K (.bool true) h → WF M 13 [] h K)
  (hO : M.O 3 = none) (hF : M.F 3 = some A3) {s t : Int} {x l : List UInt8} {h : Heap} {K : KF} (hx : x.length ≤ 9223372036854775807)
  (hk : ∀ h', Grow h h' → K (.bool true) h') : WF M 3 [vstr x, .agg ⟨[vi s, vi t, vstr l]⟩] h K := by
  rw [WF_eqT 10 hO hF]
  simp (maxSteps := 2000000) (disch := first | omega | (simp only [List.length_cons, List.length_nil, List.length_set, List.length_map, List.length_replicate, List.length_append, List.length_take, List.length_drop, Int.toNat_natCast] <;> omega) | fail) only [vi, vb, vstr, rxc, rxo, Nat.reduceLeDiff, List.getElem?_cons_zero, List.getElem?_cons_succ, List.length_cons, List.length_nil, List.set_cons_zero, List.set_cons_succ, ↓reduceIte, Bool.not_true, Bool.not_false, true_and, and_true, not_true_eq_false, not_false_eq_true, decide_true, decide_false, Nat.reduceEqDiff, Nat.reduceAdd, Nat.reduceMul, Nat.zero_add, Nat.mul_one, Int.toNat_natCast, A3, R3_0, R3_1]
  refine apply_ok hm hO37 hF37 hO12 hF12 hx fun h1 g1 => ?_
  have G1 := g1.new1
  simp only [Grow, Heap.next_new] at g1
  by_cases hc0 : checkF x.length s t l = 0
  · have hh := hc0
    unfold checkF at hh
    have hr : 0 ≤ s ∧ s ≤ t ∧ t ≤ x.length ∧ (x.length : Int) ≤ 65536 ∧ l.length ≤ 65536 - (x.length : Int) + (t - s) := by
      repeat' split at hh
      all_goals omega
    obtain ⟨hr1, hr2, hr3, hr4, hr5⟩ := hr
    rw [if_pos hc0]
    have hy : (x.take s.toNat ++ l ++ x.drop t.toNat).length = x.length - (t - s) + l.length := by
      simp only [List.length_append, List.length_take, List.length_drop]; omega
    generalize hY : x.take s.toNat ++ l ++ x.drop t.toNat = y at hy ⊢
    have hlen : (y.length : Int) = x.length - (t - s) + l.length := by omega
    have hcut : (y.drop s.toNat).take ((s + l.length).toNat - s.toNat) = l := by
      rw [← hY, List.append_assoc, List.drop_append_of_le_length (by simp; omega), List.drop_of_length_le (by simp; omega), List.nil_append, show (s + l.length).toNat - s.toNat = l.length by omega, List.take_append_of_le_length (by omega), List.take_of_length_le (by omega)]
    have hy1 : ∀ i : Nat, i < s.toNat → y.getD i 0 = x.getD i 0 := fun i hi => by
      rw [← hY, List.append_assoc, List.getD_eq_getElem?_getD, List.getElem?_append_left (by simp; omega), List.getElem?_take, if_pos hi, List.getD_eq_getElem?_getD]
    have hy2 : ∀ i : Nat, t.toNat ≤ i → y.getD (i - (t.toNat - s.toNat) + l.length) 0 = x.getD i 0 := fun i hi => by
      rw [← hY, List.getD_eq_getElem?_getD, List.getElem?_append_right (by simp; omega), List.getElem?_drop, List.getD_eq_getElem?_getD]
      congr 2
      simp
      omega
    have hy3 : y.take s.toNat = x.take s.toNat := by
      rw [← hY, List.append_assoc, List.take_append_of_le_length (by simp; omega), List.take_of_length_le (by simp; omega)]
    have hy4 : y.drop (s + l.length).toNat = x.drop t.toNat := by
      rw [← hY, List.drop_append_of_le_length (by simp; omega), List.drop_of_length_le (by simp; omega), List.nil_append]
    have hb : h1.at h.next = some (.cells [vi s, vi t, vstr l] 23 true) := by rw [g1.2 _ (by omega), at_new_same]
    simp (maxSteps := 2000000) (disch := first | omega | (simp only [List.length_cons, List.length_nil, List.length_set, List.length_map, List.length_replicate, List.length_append, List.length_take, List.length_drop, Int.toNat_natCast] <;> omega) | fail) only [vi, vb, vstr, rxc, rxo, Nat.reduceLeDiff, List.getElem?_cons_zero, List.getElem?_cons_succ, List.length_cons, List.length_nil, List.set_cons_zero, List.set_cons_succ, ↓reduceIte, Bool.not_true, Bool.not_false, true_and, and_true, not_true_eq_false, not_false_eq_true, decide_true, decide_false, Nat.reduceEqDiff, Nat.reduceAdd, Nat.reduceMul, Nat.zero_add, Nat.mul_one, Int.toNat_natCast, R3_2]
    refine WC_regd0 hm ?_
    simp (maxSteps := 2000000) (disch := first | omega | (simp only [List.length_cons, List.length_nil, List.length_set, List.length_map, List.length_replicate, List.length_append, List.length_take, List.length_drop, Int.toNat_natCast] <;> omega) | fail) only [vi, vb, vstr, rxc, rxo, Nat.reduceLeDiff, List.getElem?_cons_zero, List.getElem?_cons_succ, List.length_cons, List.length_nil, List.set_cons_zero, List.set_cons_succ, ↓reduceIte, Bool.not_true, Bool.not_false, true_and, and_true, not_true_eq_false, not_false_eq_true, decide_true, decide_false, Nat.reduceEqDiff, Nat.reduceAdd, Nat.reduceMul, Nat.zero_add, Nat.mul_one, Int.toNat_natCast, R3_4, hb, hcut]
    simp (maxSteps := 2000000) (disch := first | omega | (simp only [List.length_cons, List.length_nil, List.length_set, List.length_map, List.length_replicate, List.length_append, List.length_take, List.length_drop, Int.toNat_natCast] <;> omega) | fail) only [vi, vb, vstr, rxc, rxo, Nat.reduceLeDiff, List.getElem?_cons_zero, List.getElem?_cons_succ, List.length_cons, List.length_nil, List.set_cons_zero, List.set_cons_succ, ↓reduceIte, Bool.not_true, Bool.not_false, true_and, and_true, not_true_eq_false, not_false_eq_true, decide_true, decide_false, Nat.reduceEqDiff, Nat.reduceAdd, Nat.reduceMul, Nat.zero_add, Nat.mul_one, Int.toNat_natCast, R3_6, hb]
    refine WC_bloop 10 (fun m e h' => ∃ i : Int, m = (s - i).toNat ∧ 0 ≤ i ∧ e.g 0 = vstr x ∧ e.g 3 = .pointer (some ⟨h.next, 0, none⟩) ∧ e.g 5 = vstr y ∧ e.g 7 = vi i ∧ h'.at h.next = some (.cells [vi s, vi t, vstr l] 23 true) ∧ Grow h h' ∧ h.next < h'.next)
      (fun e h' => e.g 0 = vstr x ∧ e.g 3 = .pointer (some ⟨h.next, 0, none⟩) ∧ e.g 5 = vstr y ∧ h'.at h.next = some (.cells [vi s, vi t, vstr l] 23 true) ∧ Grow h h' ∧ h.next < h'.next) ?_ ?_ ?_
    · refine ⟨_, max 0 (s - 200), rfl, by omega, ?_, ?_, ?_, ?_, hb, G1, by omega⟩
      all_goals simp (maxSteps := 2000000) (disch := first | omega | (simp only [List.length_cons, List.length_nil, List.length_set, List.length_map, List.length_replicate, List.length_append, List.length_take, List.length_drop, Int.toNat_natCast] <;> omega) | fail) only [vi, vb, vstr, rxc, rxo, Nat.reduceLeDiff, List.getElem?_cons_zero, List.getElem?_cons_succ, List.length_cons, List.length_nil, List.set_cons_zero, List.set_cons_succ, ↓reduceIte, Bool.not_true, Bool.not_false, true_and, and_true, not_true_eq_false, not_false_eq_true, decide_true, decide_false, Nat.reduceEqDiff, Nat.reduceAdd, Nat.reduceMul, Nat.zero_add, Nat.mul_one, Int.toNat_natCast]
    · rintro m e h2 ⟨i, hm2, i0, e0, e3, e5, e7, hb2, G2, hn2⟩
      simp (maxSteps := 2000000) (disch := first | omega | (simp only [List.length_cons, List.length_nil, List.length_set, List.length_map, List.length_replicate, List.length_append, List.length_take, List.length_drop, Int.toNat_natCast] <;> omega) | fail) only [vi, vb, vstr, rxc, rxo, Nat.reduceLeDiff, List.getElem?_cons_zero, List.getElem?_cons_succ, List.length_cons, List.length_nil, List.set_cons_zero, List.set_cons_succ, ↓reduceIte, Bool.not_true, Bool.not_false, true_and, and_true, not_true_eq_false, not_false_eq_true, decide_true, decide_false, Nat.reduceEqDiff, Nat.reduceAdd, Nat.reduceMul, Nat.zero_add, Nat.mul_one, Int.toNat_natCast, B3_0, R3_7, e0, e3, e5, e7, hb2]
      refine WCond_dec (fun hc => ?_) (fun hc => ?_)
      · simp (maxSteps := 2000000) (disch := first | omega | (simp only [List.length_cons, List.length_nil, List.length_set, List.length_map, List.length_replicate, List.length_append, List.length_take, List.length_drop, Int.toNat_natCast] <;> omega) | fail) only [vi, vb, vstr, rxc, rxo, Nat.reduceLeDiff, List.getElem?_cons_zero, List.getElem?_cons_succ, List.length_cons, List.length_nil, List.set_cons_zero, List.set_cons_succ, ↓reduceIte, Bool.not_true, Bool.not_false, true_and, and_true, not_true_eq_false, not_false_eq_true, decide_true, decide_false, Nat.reduceEqDiff, Nat.reduceAdd, Nat.reduceMul, Nat.zero_add, Nat.mul_one, Int.toNat_natCast]
        refine WC_regd0 hm ?_
        simp (maxSteps := 2000000) (disch := first | omega | (simp only [List.length_cons, List.length_nil, List.length_set, List.length_map, List.length_replicate, List.length_append, List.length_take, List.length_drop, Int.toNat_natCast] <;> omega) | fail) only [vi, vb, vstr, rxc, rxo, Nat.reduceLeDiff, List.getElem?_cons_zero, List.getElem?_cons_succ, List.length_cons, List.length_nil, List.set_cons_zero, List.set_cons_succ, ↓reduceIte, Bool.not_true, Bool.not_false, true_and, and_true, not_true_eq_false, not_false_eq_true, decide_true, decide_false, Nat.reduceEqDiff, Nat.reduceAdd, Nat.reduceMul, Nat.zero_add, Nat.mul_one, Int.toNat_natCast, R3_8, e0, e3, e5, e7, hb2]
        refine at_ok hO38 hF38 hO39 hF39 hO14 hF14 fun h3 g3 => ?_
        have hat : atF s t l i = i := by
          unfold atF movedF
          rw [if_pos (by omega), if_pos (by omega)]
        rw [hat]
        simp (maxSteps := 2000000) (disch := first | omega | (simp only [List.length_cons, List.length_nil, List.length_set, List.length_map, List.length_replicate, List.length_append, List.length_take, List.length_drop, Int.toNat_natCast] <;> omega) | fail) only [vi, vb, vstr, rxc, rxo, Nat.reduceLeDiff, List.getElem?_cons_zero, List.getElem?_cons_succ, List.length_cons, List.length_nil, List.set_cons_zero, List.set_cons_succ, ↓reduceIte, Bool.not_true, Bool.not_false, true_and, and_true, not_true_eq_false, not_false_eq_true, decide_true, decide_false, Nat.reduceEqDiff, Nat.reduceAdd, Nat.reduceMul, Nat.zero_add, Nat.mul_one, Int.toNat_natCast, e0, e3, e5, e7, hy1 i.toNat (by omega), R3_10]
        have hb3 : h3.at h.next = some (.cells [vi s, vi t, vstr l] 23 true) := by rw [g3.2 _ hn2, hb2]
        exact ⟨_, by omega, i + 1, rfl, by omega, rfl, hb3, G2.trans g3, by have := g3.1; omega⟩
      · simp (maxSteps := 2000000) (disch := first | omega | (simp only [List.length_cons, List.length_nil, List.length_set, List.length_map, List.length_replicate, List.length_append, List.length_take, List.length_drop, Int.toNat_natCast] <;> omega) | fail) only [vi, vb, vstr, rxc, rxo, Nat.reduceLeDiff, List.getElem?_cons_zero, List.getElem?_cons_succ, List.length_cons, List.length_nil, List.set_cons_zero, List.set_cons_succ, ↓reduceIte, Bool.not_true, Bool.not_false, true_and, and_true, not_true_eq_false, not_false_eq_true, decide_true, decide_false, Nat.reduceEqDiff, Nat.reduceAdd, Nat.reduceMul, Nat.zero_add, Nat.mul_one, Int.toNat_natCast, e0, e3, e5, hb2]
        exact ⟨G2, hn2⟩
    · rintro e h2 ⟨e0, e3, e5, hb2, G2, hn2⟩
      simp (maxSteps := 2000000) (disch := first | omega | (simp only [List.length_cons, List.length_nil, List.length_set, List.length_map, List.length_replicate, List.length_append, List.length_take, List.length_drop, Int.toNat_natCast] <;> omega) | fail) only [vi, vb, vstr, rxc, rxo, Nat.reduceLeDiff, List.getElem?_cons_zero, List.getElem?_cons_succ, List.length_cons, List.length_nil, List.set_cons_zero, List.set_cons_succ, ↓reduceIte, Bool.not_true, Bool.not_false, true_and, and_true, not_true_eq_false, not_false_eq_true, decide_true, decide_false, Nat.reduceEqDiff, Nat.reduceAdd, Nat.reduceMul, Nat.zero_add, Nat.mul_one, Int.toNat_natCast, R3_11, e0, e3, e5, hb2]
      refine WC_bloop 10 (fun m e h' => ∃ i : Int, m = (x.length - i).toNat ∧ t ≤ i ∧ e.g 0 = vstr x ∧ e.g 3 = .pointer (some ⟨h.next, 0, none⟩) ∧ e.g 5 = vstr y ∧ e.g 8 = vi i ∧ h'.at h.next = some (.cells [vi s, vi t, vstr l] 23 true) ∧ Grow h h' ∧ h.next < h'.next)
        (fun e h' => e.g 0 = vstr x ∧ e.g 3 = .pointer (some ⟨h.next, 0, none⟩) ∧ e.g 5 = vstr y ∧ h'.at h.next = some (.cells [vi s, vi t, vstr l] 23 true) ∧ Grow h h' ∧ h.next < h'.next) ?_ ?_ ?_
      · refine ⟨_, t, rfl, by omega, ?_, ?_, ?_, ?_, hb2, G2, by omega⟩
        all_goals simp (maxSteps := 2000000) (disch := first | omega | (simp only [List.length_cons, List.length_nil, List.length_set, List.length_map, List.length_replicate, List.length_append, List.length_take, List.length_drop, Int.toNat_natCast] <;> omega) | fail) only [vi, vb, vstr, rxc, rxo, Nat.reduceLeDiff, List.getElem?_cons_zero, List.getElem?_cons_succ, List.length_cons, List.length_nil, List.set_cons_zero, List.set_cons_succ, ↓reduceIte, Bool.not_true, Bool.not_false, true_and, and_true, not_true_eq_false, not_false_eq_true, decide_true, decide_false, Nat.reduceEqDiff, Nat.reduceAdd, Nat.reduceMul, Nat.zero_add, Nat.mul_one, Int.toNat_natCast, e0, e3, e5]
      · rintro m e h2 ⟨i, hm2, i0, e0, e3, e5, e8, hb2, G2, hn2⟩
        simp (maxSteps := 2000000) (disch := first | omega | (simp only [List.length_cons, List.length_nil, List.length_set, List.length_map, List.length_replicate, List.length_append, List.length_take, List.length_drop, Int.toNat_natCast] <;> omega) | fail) only [vi, vb, vstr, rxc, rxo, Nat.reduceLeDiff, List.getElem?_cons_zero, List.getElem?_cons_succ, List.length_cons, List.length_nil, List.set_cons_zero, List.set_cons_succ, ↓reduceIte, Bool.not_true, Bool.not_false, true_and, and_true, not_true_eq_false, not_false_eq_true, decide_true, decide_false, Nat.reduceEqDiff, Nat.reduceAdd, Nat.reduceMul, Nat.zero_add, Nat.mul_one, Int.toNat_natCast, B3_1, R3_12, e0, e3, e5, e8, hb2]
        repeat' first
          | refine WG_dec (fun hc => ?_) (fun hc => ?_)
          | refine WCond_dec (fun hc => ?_) (fun hc => ?_)
          | simp (maxSteps := 2000000) (disch := first | omega | (simp only [List.length_cons, List.length_nil, List.length_set, List.length_map, List.length_replicate, List.length_append, List.length_take, List.length_drop, Int.toNat_natCast] <;> omega) | fail) only [vi, vb, vstr, rxc, rxo, Nat.reduceLeDiff, List.getElem?_cons_zero, List.getElem?_cons_succ, List.length_cons, List.length_nil, List.set_cons_zero, List.set_cons_succ, ↓reduceIte, Bool.not_true, Bool.not_false, true_and, and_true, not_true_eq_false, not_false_eq_true, decide_true, decide_false, Nat.reduceEqDiff, Nat.reduceAdd, Nat.reduceMul, Nat.zero_add, Nat.mul_one, Int.toNat_natCast, R3_13, e0, e3, e5, e8, hb2]
        all_goals first
          | exact ⟨G2, hn2⟩
          | skip
        refine at_ok hO38 hF38 hO39 hF39 hO14 hF14 fun h3 g3 => ?_
        have hat : i > s → atF s t l i = i - (t - s) + l.length := fun hi => by
          unfold atF movedF
          rw [if_pos (by omega), if_neg (by omega), if_pos (by omega)]
        have hb3 : h3.at h.next = some (.cells [vi s, vi t, vstr l] 23 true) := by rw [g3.2 _ hn2, hb2]
        have hn3 := g3.1
        simp (maxSteps := 2000000) (disch := first | omega | (simp only [List.length_cons, List.length_nil, List.length_set, List.length_map, List.length_replicate, List.length_append, List.length_take, List.length_drop, Int.toNat_natCast] <;> omega) | fail) only [vi, vb, vstr, rxc, rxo, Nat.reduceLeDiff, List.getElem?_cons_zero, List.getElem?_cons_succ, List.length_cons, List.length_nil, List.set_cons_zero, List.set_cons_succ, ↓reduceIte, Bool.not_true, Bool.not_false, true_and, and_true, not_true_eq_false, not_false_eq_true, decide_true, decide_false, Nat.reduceEqDiff, Nat.reduceAdd, Nat.reduceMul, Nat.zero_add, Nat.mul_one, Int.toNat_natCast, e0, e3, e5, e8, hb3]
        refine WC_regd0 hm ?_
        by_cases hi : s < i
        · rw [hat hi]
          have hyy := hy2 i.toNat (by omega)
          have hz : (i - (t - s) + (l.length : Int)).toNat = i.toNat - (t.toNat - s.toNat) + l.length := by omega
          simp (maxSteps := 2000000) (disch := first | omega | (simp only [List.length_cons, List.length_nil, List.length_set, List.length_map, List.length_replicate, List.length_append, List.length_take, List.length_drop, Int.toNat_natCast] <;> omega) | fail) only [vi, vb, vstr, rxc, rxo, Nat.reduceLeDiff, List.getElem?_cons_zero, List.getElem?_cons_succ, List.length_cons, List.length_nil, List.set_cons_zero, List.set_cons_succ, ↓reduceIte, Bool.not_true, Bool.not_false, true_and, and_true, not_true_eq_false, not_false_eq_true, decide_true, decide_false, Nat.reduceEqDiff, Nat.reduceAdd, Nat.reduceMul, Nat.zero_add, Nat.mul_one, Int.toNat_natCast, R3_14, e0, e3, e5, e8, hb3, hi, hz, hyy, R3_16]
          exact ⟨_, by omega, i + 1, rfl, by omega, rfl, G2.trans g3, by omega⟩
        · simp (maxSteps := 2000000) (disch := first | omega | (simp only [List.length_cons, List.length_nil, List.length_set, List.length_map, List.length_replicate, List.length_append, List.length_take, List.length_drop, Int.toNat_natCast] <;> omega) | fail) only [vi, vb, vstr, rxc, rxo, Nat.reduceLeDiff, List.getElem?_cons_zero, List.getElem?_cons_succ, List.length_cons, List.length_nil, List.set_cons_zero, List.set_cons_succ, ↓reduceIte, Bool.not_true, Bool.not_false, true_and, and_true, not_true_eq_false, not_false_eq_true, decide_true, decide_false, Nat.reduceEqDiff, Nat.reduceAdd, Nat.reduceMul, Nat.zero_add, Nat.mul_one, Int.toNat_natCast, R3_14, e0, e3, e5, e8, hb3, hi, R3_16]
          exact ⟨_, by omega, i + 1, rfl, by omega, rfl, G2.trans g3, by omega⟩
      · rintro e h2 ⟨e0, e3, e5, hb2, G2, hn2⟩
        simp (maxSteps := 2000000) (disch := first | omega | (simp only [List.length_cons, List.length_nil, List.length_set, List.length_map, List.length_replicate, List.length_append, List.length_take, List.length_drop, Int.toNat_natCast] <;> omega) | fail) only [vi, vb, vstr, rxc, rxo, Nat.reduceLeDiff, List.getElem?_cons_zero, List.getElem?_cons_succ, List.length_cons, List.length_nil, List.set_cons_zero, List.set_cons_succ, ↓reduceIte, Bool.not_true, Bool.not_false, true_and, and_true, not_true_eq_false, not_false_eq_true, decide_true, decide_false, Nat.reduceEqDiff, Nat.reduceAdd, Nat.reduceMul, Nat.zero_add, Nat.mul_one, Int.toNat_natCast]
        refine WC_regd0 hm ?_
        simp (maxSteps := 2000000) (disch := first | omega | (simp only [List.length_cons, List.length_nil, List.length_set, List.length_map, List.length_replicate, List.length_append, List.length_take, List.length_drop, Int.toNat_natCast] <;> omega) | fail) only [vi, vb, vstr, rxc, rxo, Nat.reduceLeDiff, List.getElem?_cons_zero, List.getElem?_cons_succ, List.length_cons, List.length_nil, List.set_cons_zero, List.set_cons_succ, ↓reduceIte, Bool.not_true, Bool.not_false, true_and, and_true, not_true_eq_false, not_false_eq_true, decide_true, decide_false, Nat.reduceEqDiff, Nat.reduceAdd, Nat.reduceMul, Nat.zero_add, Nat.mul_one, Int.toNat_natCast, R3_17, e0, e3, e5, hb2, hy3, hy4]
        refine hal _ _ ?_
        simp (maxSteps := 2000000) (disch := first | omega | (simp only [List.length_cons, List.length_nil, List.length_set, List.length_map, List.length_replicate, List.length_append, List.length_take, List.length_drop, Int.toNat_natCast] <;> omega) | fail) only [vi, vb, vstr, rxc, rxo, Nat.reduceLeDiff, List.getElem?_cons_zero, List.getElem?_cons_succ, List.length_cons, List.length_nil, List.set_cons_zero, List.set_cons_succ, ↓reduceIte, Bool.not_true, Bool.not_false, true_and, and_true, not_true_eq_false, not_false_eq_true, decide_true, decide_false, Nat.reduceEqDiff, Nat.reduceAdd, Nat.reduceMul, Nat.zero_add, Nat.mul_one, Int.toNat_natCast]
        exact hk _ G2
  · rw [if_neg hc0]
    simp (maxSteps := 2000000) (disch := first | omega | (simp only [List.length_cons, List.length_nil, List.length_set, List.length_map, List.length_replicate, List.length_append, List.length_take, List.length_drop, Int.toNat_natCast] <;> omega) | fail) only [vi, vb, vstr, rxc, rxo, Nat.reduceLeDiff, List.getElem?_cons_zero, List.getElem?_cons_succ, List.length_cons, List.length_nil, List.set_cons_zero, List.set_cons_succ, ↓reduceIte, Bool.not_true, Bool.not_false, true_and, and_true, not_true_eq_false, not_false_eq_true, decide_true, decide_false, Nat.reduceEqDiff, Nat.reduceAdd, Nat.reduceMul, Nat.zero_add, Nat.mul_one, Int.toNat_natCast, R3_2, hc0, R3_3]
    refine hal _ _ ?_
    simp (maxSteps := 2000000) (disch := first | omega | (simp only [List.length_cons, List.length_nil, List.length_set, List.length_map, List.length_replicate, List.length_append, List.length_take, List.length_drop, Int.toNat_natCast] <;> omega) | fail) only [vi, vb, vstr, rxc, rxo, Nat.reduceLeDiff, List.getElem?_cons_zero, List.getElem?_cons_succ, List.length_cons, List.length_nil, List.set_cons_zero, List.set_cons_succ, ↓reduceIte, Bool.not_true, Bool.not_false, true_and, and_true, not_true_eq_false, not_false_eq_true, decide_true, decide_false, Nat.reduceEqDiff, Nat.reduceAdd, Nat.reduceMul, Nat.zero_add, Nat.mul_one, Int.toNat_natCast]
    exact hk _ G1
end Go.Rx
