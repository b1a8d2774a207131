/- Contracts of functions of the given program, over the abstract machine. -/
import Derived.Test.YtabhplelhjcdiaaMgE
namespace Go.Rx
variable {M : Mach}
set_option maxRecDepth 4000
set_option linter.unusedSimpArgs false
set_option linter.unusedVariables false

set_option maxHeartbeats 1000000 in
theorem turned_ok (hm : M.Mono) (hO15 : M.O 15 = none) (hF15 : M.F 15 = some A15) (hO16 : M.O 16 = none) (hF16 : M.F 16 = some A16) (hO40 : M.O 40 = none) (hF40 : M.F 40 = some A40) (hO41 : M.O 41 = none) (hF41 : M.F 41 = some A41) (hO18 : M.O 18 = none) (hF18 : M.F 18 = some A18)
  (hO17 : M.O 17 = some saysTrue) (hO : M.O 4 = none) (hF : M.F 4 = some A4)
  (hL : ∀ {v vn vr : Value} {us : List Value} {S : Nat → Prop} {d : DfaD} {h : Heap} {K : KF}, 1 ≤ h.next → DfaV h S v vn vr us d → Dok d → (∀ h' x w wn wr ws, GrowP h h' → DfaV h' (fun b => b = 0 ∨ h.next ≤ b) w wn wr ws x → LeastS d x → K (.tuple ⟨[w, .int .i64 0]⟩) h') → WF M 19 [v] h K)
  (hS : ∀ {v vn vr w wn wr : Value} {us ws : List Value} {S T : Nat → Prop} {c d : DfaD} {h : Heap} {K : KF}, DfaV h S v vn vr us c → DfaV h T w wn wr ws d → c = d → (∀ h', Grow h h' → K (.bool true) h') → WF M 20 [v, w] h K)
  {v vn vr vt : Value} {us : List Value} {S : Nat → Prop} {d : DfaD} {ts : List Int} {h : Heap} {K : KF} (h1n : 1 ≤ h.next) (hd : DfaV h S v vn vr us d) (ht : SlV h vt (ts.map (.int .i64)))
  (hk : ∀ h', K (.bool true) h') : WF M 4 [v, vt] h K := by
  have hv := hd.val
  subst hv
  rw [WF_eqT 22 hO hF]
  simp (maxSteps := 2000000) (disch := first | omega | assumption | (simp only [oneC_int, oneC_bool, oneC_str, oneC_ptr, oneC_sl, oneC_map]; done) | (simp only [List.length_cons, List.length_nil, List.length_set, List.length_map, List.length_replicate, List.length_append, List.length_take, List.length_drop, Int.toNat_natCast] <;> omega) | fail) only [Go.Rx.vi, Go.Rx.vb, Go.Rx.vstr, rxc, rxo, Nat.reduceLeDiff, List.getElem?_cons_zero, List.getElem?_cons_succ, List.length_cons, List.length_nil, List.set_cons_zero, List.set_cons_succ, ↓reduceIte, Bool.not_true, Bool.not_false, true_and, and_true, not_true_eq_false, not_false_eq_true, decide_true, decide_false, Nat.reduceEqDiff, Nat.reduceAdd, Nat.reduceMul, Nat.reducePow, Int.reduceToNat, Int.reducePow, Nat.zero_add, Nat.mul_one, Int.toNat_natCast, A4, R4_0, dfaC_len hd.cls]
  obtain ⟨h1, e1, g1, n1, b1⟩ := boxed h (dfaC d.start d.cls vn vr) 34
  rw [e1]
  have hcd : cut (dfaC d.start d.cls vn vr) 0 259 = some (dfaC d.start d.cls vn vr) := cut_all (dfaC_len hd.cls)
  have d1 := hd.grow g1
  simp (maxSteps := 2000000) (disch := first | omega | assumption | (simp only [oneC_int, oneC_bool, oneC_str, oneC_ptr, oneC_sl, oneC_map]; done) | (simp only [List.length_cons, List.length_nil, List.length_set, List.length_map, List.length_replicate, List.length_append, List.length_take, List.length_drop, Int.toNat_natCast] <;> omega) | fail) only [Go.Rx.vi, Go.Rx.vb, Go.Rx.vstr, rxc, rxo, Nat.reduceLeDiff, List.getElem?_cons_zero, List.getElem?_cons_succ, List.length_cons, List.length_nil, List.set_cons_zero, List.set_cons_succ, ↓reduceIte, Bool.not_true, Bool.not_false, true_and, and_true, not_true_eq_false, not_false_eq_true, decide_true, decide_false, Nat.reduceEqDiff, Nat.reduceAdd, Nat.reduceMul, Nat.reducePow, Int.reduceToNat, Int.reducePow, Nat.zero_add, Nat.mul_one, Int.toNat_natCast, R4_1, b1, hcd]
  refine dfaBig_ok hO15 hF15 d1 (by omega) (by omega) fun bg h2 g2 => ?_
  have n2 := g2.1
  have b2 : h2.at h.next = some (.cells (dfaC d.start d.cls vn vr) 34 true) := by rw [g2.2 _ (by omega)]; exact b1
  have d2 := d1.grow g2
  cases bg
  case true =>
    simp (maxSteps := 2000000) (disch := first | omega | assumption | (simp only [oneC_int, oneC_bool, oneC_str, oneC_ptr, oneC_sl, oneC_map]; done) | (simp only [List.length_cons, List.length_nil, List.length_set, List.length_map, List.length_replicate, List.length_append, List.length_take, List.length_drop, Int.toNat_natCast] <;> omega) | fail) only [Go.Rx.vi, Go.Rx.vb, Go.Rx.vstr, rxc, rxo, Nat.reduceLeDiff, List.getElem?_cons_zero, List.getElem?_cons_succ, List.length_cons, List.length_nil, List.set_cons_zero, List.set_cons_succ, ↓reduceIte, Bool.not_true, Bool.not_false, true_and, and_true, not_true_eq_false, not_false_eq_true, decide_true, decide_false, Nat.reduceEqDiff, Nat.reduceAdd, Nat.reduceMul, Nat.reducePow, Int.reduceToNat, Int.reducePow, Nat.zero_add, Nat.mul_one, Int.toNat_natCast, R4_2]
    refine WF_true hO17 ?_
    simp (maxSteps := 2000000) (disch := first | omega | assumption | (simp only [oneC_int, oneC_bool, oneC_str, oneC_ptr, oneC_sl, oneC_map]; done) | (simp only [List.length_cons, List.length_nil, List.length_set, List.length_map, List.length_replicate, List.length_append, List.length_take, List.length_drop, Int.toNat_natCast] <;> omega) | fail) only [Go.Rx.vi, Go.Rx.vb, Go.Rx.vstr, rxc, rxo, Nat.reduceLeDiff, List.getElem?_cons_zero, List.getElem?_cons_succ, List.length_cons, List.length_nil, List.set_cons_zero, List.set_cons_succ, ↓reduceIte, Bool.not_true, Bool.not_false, true_and, and_true, not_true_eq_false, not_false_eq_true, decide_true, decide_false, Nat.reduceEqDiff, Nat.reduceAdd, Nat.reduceMul, Nat.reducePow, Int.reduceToNat, Int.reducePow, Nat.zero_add, Nat.mul_one, Int.toNat_natCast]
    exact hk _
  simp (maxSteps := 2000000) (disch := first | omega | assumption | (simp only [oneC_int, oneC_bool, oneC_str, oneC_ptr, oneC_sl, oneC_map]; done) | (simp only [List.length_cons, List.length_nil, List.length_set, List.length_map, List.length_replicate, List.length_append, List.length_take, List.length_drop, Int.toNat_natCast] <;> omega) | fail) only [Go.Rx.vi, Go.Rx.vb, Go.Rx.vstr, rxc, rxo, Nat.reduceLeDiff, List.getElem?_cons_zero, List.getElem?_cons_succ, List.length_cons, List.length_nil, List.set_cons_zero, List.set_cons_succ, ↓reduceIte, Bool.not_true, Bool.not_false, true_and, and_true, not_true_eq_false, not_false_eq_true, decide_true, decide_false, Nat.reduceEqDiff, Nat.reduceAdd, Nat.reduceMul, Nat.reducePow, Int.reduceToNat, Int.reducePow, Nat.zero_add, Nat.mul_one, Int.toNat_natCast, b2, hcd]
  refine dfaCheck_ok hO40 hF40 hO41 hF41 hO16 hF16 (by omega) d2 fun r h3 g3 hr => ?_
  simp (maxSteps := 2000000) (disch := first | omega | assumption | (simp only [oneC_int, oneC_bool, oneC_str, oneC_ptr, oneC_sl, oneC_map]; done) | (simp only [List.length_cons, List.length_nil, List.length_set, List.length_map, List.length_replicate, List.length_append, List.length_take, List.length_drop, Int.toNat_natCast] <;> omega) | fail) only [Go.Rx.vi, Go.Rx.vb, Go.Rx.vstr, rxc, rxo, Nat.reduceLeDiff, List.getElem?_cons_zero, List.getElem?_cons_succ, List.length_cons, List.length_nil, List.set_cons_zero, List.set_cons_succ, ↓reduceIte, Bool.not_true, Bool.not_false, true_and, and_true, not_true_eq_false, not_false_eq_true, decide_true, decide_false, Nat.reduceEqDiff, Nat.reduceAdd, Nat.reduceMul, Nat.reducePow, Int.reduceToNat, Int.reducePow, Nat.zero_add, Nat.mul_one, Int.toNat_natCast]
  refine WCond_dec (fun hc => ?_) (fun hc => ?_)
  · simp (maxSteps := 2000000) (disch := first | omega | assumption | (simp only [oneC_int, oneC_bool, oneC_str, oneC_ptr, oneC_sl, oneC_map]; done) | (simp only [List.length_cons, List.length_nil, List.length_set, List.length_map, List.length_replicate, List.length_append, List.length_take, List.length_drop, Int.toNat_natCast] <;> omega) | fail) only [Go.Rx.vi, Go.Rx.vb, Go.Rx.vstr, rxc, rxo, Nat.reduceLeDiff, List.getElem?_cons_zero, List.getElem?_cons_succ, List.length_cons, List.length_nil, List.set_cons_zero, List.set_cons_succ, ↓reduceIte, Bool.not_true, Bool.not_false, true_and, and_true, not_true_eq_false, not_false_eq_true, decide_true, decide_false, Nat.reduceEqDiff, Nat.reduceAdd, Nat.reduceMul, Nat.reducePow, Int.reduceToNat, Int.reducePow, Nat.zero_add, Nat.mul_one, Int.toNat_natCast, R4_2]
    refine WF_true hO17 ?_
    simp (maxSteps := 2000000) (disch := first | omega | assumption | (simp only [oneC_int, oneC_bool, oneC_str, oneC_ptr, oneC_sl, oneC_map]; done) | (simp only [List.length_cons, List.length_nil, List.length_set, List.length_map, List.length_replicate, List.length_append, List.length_take, List.length_drop, Int.toNat_natCast] <;> omega) | fail) only [Go.Rx.vi, Go.Rx.vb, Go.Rx.vstr, rxc, rxo, Nat.reduceLeDiff, List.getElem?_cons_zero, List.getElem?_cons_succ, List.length_cons, List.length_nil, List.set_cons_zero, List.set_cons_succ, ↓reduceIte, Bool.not_true, Bool.not_false, true_and, and_true, not_true_eq_false, not_false_eq_true, decide_true, decide_false, Nat.reduceEqDiff, Nat.reduceAdd, Nat.reduceMul, Nat.reducePow, Int.reduceToNat, Int.reducePow, Nat.zero_add, Nat.mul_one, Int.toNat_natCast]
    exact hk _
  have ok : Dok d := hr.1 (by omega)
  have ok' := ok
  obtain ⟨k1, k2, k3, k4, k5, k6, k7, k8⟩ := ok
  obtain ⟨k9, k10⟩ := cls_bounds hd.cls hd.byte k7
  have n3 := g3.1
  have b3 : h3.at h.next = some (.cells (dfaC d.start d.cls vn vr) 34 true) := by rw [g3.2 _ (by omega)]; exact b2
  have d3 := d2.grow g3
  simp (maxSteps := 2000000) (disch := first | omega | assumption | (simp only [oneC_int, oneC_bool, oneC_str, oneC_ptr, oneC_sl, oneC_map]; done) | (simp only [List.length_cons, List.length_nil, List.length_set, List.length_map, List.length_replicate, List.length_append, List.length_take, List.length_drop, Int.toNat_natCast] <;> omega) | fail) only [Go.Rx.vi, Go.Rx.vb, Go.Rx.vstr, rxc, rxo, Nat.reduceLeDiff, List.getElem?_cons_zero, List.getElem?_cons_succ, List.length_cons, List.length_nil, List.set_cons_zero, List.set_cons_succ, ↓reduceIte, Bool.not_true, Bool.not_false, true_and, and_true, not_true_eq_false, not_false_eq_true, decide_true, decide_false, Nat.reduceEqDiff, Nat.reduceAdd, Nat.reduceMul, Nat.reducePow, Int.reduceToNat, Int.reducePow, Nat.zero_add, Nat.mul_one, Int.toNat_natCast, R4_3, b3, hcd]
  refine dfaWhole_ok hm hO18 hF18 d3 ok' fun h4 g4 => ?_
  have n4 := g4.1
  have b4 : h4.at h.next = some (.cells (dfaC d.start d.cls vn vr) 34 true) := by rw [g4.2 _ (by omega)]; exact b3
  have d4 := d3.grow g4
  have hl := d4.next.len
  have r := d4.next.sl.r
  have hrow0 := (d4.next.row 0 (by omega)).r
  simp only [List.length_map, hl] at r hrow0
  simp (maxSteps := 2000000) (disch := first | omega | assumption | (simp only [oneC_int, oneC_bool, oneC_str, oneC_ptr, oneC_sl, oneC_map]; done) | (simp only [List.length_cons, List.length_nil, List.length_set, List.length_map, List.length_replicate, List.length_append, List.length_take, List.length_drop, Int.toNat_natCast] <;> omega) | fail) only [Go.Rx.vi, Go.Rx.vb, Go.Rx.vstr, rxc, rxo, Nat.reduceLeDiff, List.getElem?_cons_zero, List.getElem?_cons_succ, List.length_cons, List.length_nil, List.set_cons_zero, List.set_cons_succ, ↓reduceIte, Bool.not_true, Bool.not_false, true_and, and_true, not_true_eq_false, not_false_eq_true, decide_true, decide_false, Nat.reduceEqDiff, Nat.reduceAdd, Nat.reduceMul, Nat.reducePow, Int.reduceToNat, Int.reducePow, Nat.zero_add, Nat.mul_one, Int.toNat_natCast]
  refine WC_regd0 hm ?_
  simp (maxSteps := 2000000) (disch := first | omega | assumption | (simp only [oneC_int, oneC_bool, oneC_str, oneC_ptr, oneC_sl, oneC_map]; done) | (simp only [List.length_cons, List.length_nil, List.length_set, List.length_map, List.length_replicate, List.length_append, List.length_take, List.length_drop, Int.toNat_natCast] <;> omega) | fail) only [Go.Rx.vi, Go.Rx.vb, Go.Rx.vstr, rxc, rxo, Nat.reduceLeDiff, List.getElem?_cons_zero, List.getElem?_cons_succ, List.length_cons, List.length_nil, List.set_cons_zero, List.set_cons_succ, ↓reduceIte, Bool.not_true, Bool.not_false, true_and, and_true, not_true_eq_false, not_false_eq_true, decide_true, decide_false, Nat.reduceEqDiff, Nat.reduceAdd, Nat.reduceMul, Nat.reducePow, Int.reduceToNat, Int.reducePow, Nat.zero_add, Nat.mul_one, Int.toNat_natCast, R4_5, b4, dfaC_257 hd.cls, r, vals_get, hrow0, Int.toNat_zero, R4_6]
  refine WI_makec (by omega) (by omega) (by omega) (by omega) (by omega) (by decide) fun vo h5 oo g5 fo => ?_
  simp only [Int.toNat_natCast, ints_rep] at oo
  have n5 := g5.next
  simp (maxSteps := 2000000) (disch := first | omega | assumption | (simp only [oneC_int, oneC_bool, oneC_str, oneC_ptr, oneC_sl, oneC_map]; done) | (simp only [List.length_cons, List.length_nil, List.length_set, List.length_map, List.length_replicate, List.length_append, List.length_take, List.length_drop, Int.toNat_natCast] <;> omega) | fail) only [Go.Rx.vi, Go.Rx.vb, Go.Rx.vstr, rxc, rxo, Nat.reduceLeDiff, List.getElem?_cons_zero, List.getElem?_cons_succ, List.length_cons, List.length_nil, List.set_cons_zero, List.set_cons_succ, ↓reduceIte, Bool.not_true, Bool.not_false, true_and, and_true, not_true_eq_false, not_false_eq_true, decide_true, decide_false, Nat.reduceEqDiff, Nat.reduceAdd, Nat.reduceMul, Nat.reducePow, Int.reduceToNat, Int.reducePow, Nat.zero_add, Nat.mul_one, Int.toNat_natCast, R4_7]
  refine WI_makec (by omega) (by omega) (by omega) (by omega) (by omega) (by decide) fun vc h6 oc g6 fc => ?_
  simp only [Int.toNat_natCast, ints_rep] at oc
  have n6 := g6.next
  have oo6 := oo.gp g6
  have hoc : bno vo < bno vc := by have := oo.1; omega
  have gp6 : GrowP h4 h6 := g5.trans g6
  have hcl6 := oc.1
  simp (maxSteps := 2000000) (disch := first | omega | assumption | (simp only [oneC_int, oneC_bool, oneC_str, oneC_ptr, oneC_sl, oneC_map]; done) | (simp only [List.length_cons, List.length_nil, List.length_set, List.length_map, List.length_replicate, List.length_append, List.length_take, List.length_drop, Int.toNat_natCast] <;> omega) | fail) only [Go.Rx.vi, Go.Rx.vb, Go.Rx.vstr, rxc, rxo, Nat.reduceLeDiff, List.getElem?_cons_zero, List.getElem?_cons_succ, List.length_cons, List.length_nil, List.set_cons_zero, List.set_cons_succ, ↓reduceIte, Bool.not_true, Bool.not_false, true_and, and_true, not_true_eq_false, not_false_eq_true, decide_true, decide_false, Nat.reduceEqDiff, Nat.reduceAdd, Nat.reduceMul, Nat.reducePow, Int.reduceToNat, Int.reducePow, Nat.zero_add, Nat.mul_one, Int.toNat_natCast, R4_8]
  refine WC_bloop 22 (fun m e hh => ∃ (i : Nat) (ol : List Int), m = d.next.length - i ∧ i ≤ d.next.length ∧ e.g 1 = vt ∧ e.g 2 = pB h.next ∧ e.g 5 = .int .i64 d.next.length ∧ e.g 6 = .int .i64 (d.next.getD 0 []).length ∧ e.g 7 = vo ∧ e.g 8 = vc ∧ e.g 9 = .int .i64 i ∧
      OwnV hh 3 vo (ol.map (.int .i64)) ∧ OwnV hh 3 vc ((List.replicate (d.next.getD 0 []).length 0).map (.int .i64)) ∧ GrowP h4 hh ∧ ol.length = d.next.length ∧ ∀ j : Nat, j < i → ol.getD j 0 = j)
    (fun e hh => ∃ (ol : List Int), e.g 1 = vt ∧ e.g 2 = pB h.next ∧ e.g 5 = .int .i64 d.next.length ∧ e.g 6 = .int .i64 (d.next.getD 0 []).length ∧ e.g 7 = vo ∧ e.g 8 = vc ∧
      OwnV hh 3 vo (ol.map (.int .i64)) ∧ OwnV hh 3 vc ((List.replicate (d.next.getD 0 []).length 0).map (.int .i64)) ∧ GrowP h4 hh ∧ Prm d.next.length ol) ?_ ?_ ?_
  · refine ⟨_, 0, _, rfl, by omega, ?_, ?_, ?_, ?_, ?_, ?_, ?_, oo6, oc, gp6, by simp, fun j hj => by omega⟩
    all_goals simp (maxSteps := 2000000) (disch := first | omega | assumption | (simp only [oneC_int, oneC_bool, oneC_str, oneC_ptr, oneC_sl, oneC_map]; done) | (simp only [List.length_cons, List.length_nil, List.length_set, List.length_map, List.length_replicate, List.length_append, List.length_take, List.length_drop, Int.toNat_natCast] <;> omega) | fail) only [Go.Rx.vi, Go.Rx.vb, Go.Rx.vstr, rxc, rxo, Nat.reduceLeDiff, List.getElem?_cons_zero, List.getElem?_cons_succ, List.length_cons, List.length_nil, List.set_cons_zero, List.set_cons_succ, ↓reduceIte, Bool.not_true, Bool.not_false, true_and, and_true, not_true_eq_false, not_false_eq_true, decide_true, decide_false, Nat.reduceEqDiff, Nat.reduceAdd, Nat.reduceMul, Nat.reducePow, Int.reduceToNat, Int.reducePow, Nat.zero_add, Nat.mul_one, Int.toNat_natCast]
    rfl
  · rintro m e hh ⟨i, ol, rfl, hi, e1, e2, e5, e6, e7, e8, e9, oo, oc, gp, hol, hj⟩
    simp (maxSteps := 2000000) (disch := first | omega | assumption | (simp only [oneC_int, oneC_bool, oneC_str, oneC_ptr, oneC_sl, oneC_map]; done) | (simp only [List.length_cons, List.length_nil, List.length_set, List.length_map, List.length_replicate, List.length_append, List.length_take, List.length_drop, Int.toNat_natCast] <;> omega) | fail) only [Go.Rx.vi, Go.Rx.vb, Go.Rx.vstr, rxc, rxo, Nat.reduceLeDiff, List.getElem?_cons_zero, List.getElem?_cons_succ, List.length_cons, List.length_nil, List.set_cons_zero, List.set_cons_succ, ↓reduceIte, Bool.not_true, Bool.not_false, true_and, and_true, not_true_eq_false, not_false_eq_true, decide_true, decide_false, Nat.reduceEqDiff, Nat.reduceAdd, Nat.reduceMul, Nat.reducePow, Int.reduceToNat, Int.reducePow, Nat.zero_add, Nat.mul_one, Int.toNat_natCast, B4_0, R4_9, e1, e2, e5, e6, e7, e8, e9]
    refine WCond_dec (fun hc => ?_) (fun hc => ?_)
    · have orr := oo.sl.r
      simp only [List.length_map, hol] at orr
      simp (maxSteps := 2000000) (disch := first | omega | assumption | (simp only [oneC_int, oneC_bool, oneC_str, oneC_ptr, oneC_sl, oneC_map]; done) | (simp only [List.length_cons, List.length_nil, List.length_set, List.length_map, List.length_replicate, List.length_append, List.length_take, List.length_drop, Int.toNat_natCast] <;> omega) | fail) only [Go.Rx.vi, Go.Rx.vb, Go.Rx.vstr, rxc, rxo, Nat.reduceLeDiff, List.getElem?_cons_zero, List.getElem?_cons_succ, List.length_cons, List.length_nil, List.set_cons_zero, List.set_cons_succ, ↓reduceIte, Bool.not_true, Bool.not_false, true_and, and_true, not_true_eq_false, not_false_eq_true, decide_true, decide_false, Nat.reduceEqDiff, Nat.reduceAdd, Nat.reduceMul, Nat.reducePow, Int.reduceToNat, Int.reducePow, Nat.zero_add, Nat.mul_one, Int.toNat_natCast, R4_10, e1, e2, e5, e6, e7, e8, e9, orr]
      refine WI_storec oo (by rw [List.length_map]; omega) rfl fun hx ox cx => ?_
      rw [ints_set] at ox
      simp (maxSteps := 2000000) (disch := first | omega | assumption | (simp only [oneC_int, oneC_bool, oneC_str, oneC_ptr, oneC_sl, oneC_map]; done) | (simp only [List.length_cons, List.length_nil, List.length_set, List.length_map, List.length_replicate, List.length_append, List.length_take, List.length_drop, Int.toNat_natCast] <;> omega) | fail) only [Go.Rx.vi, Go.Rx.vb, Go.Rx.vstr, rxc, rxo, Nat.reduceLeDiff, List.getElem?_cons_zero, List.getElem?_cons_succ, List.length_cons, List.length_nil, List.set_cons_zero, List.set_cons_succ, ↓reduceIte, Bool.not_true, Bool.not_false, true_and, and_true, not_true_eq_false, not_false_eq_true, decide_true, decide_false, Nat.reduceEqDiff, Nat.reduceAdd, Nat.reduceMul, Nat.reducePow, Int.reduceToNat, Int.reducePow, Nat.zero_add, Nat.mul_one, Int.toNat_natCast, R4_11, e1, e2, e5, e6, e7, e8, e9]
      refine ⟨_, by omega, i + 1, _, rfl, by omega, by simp, ox, oc.chg cx (by omega), gp.chg cx (by omega), by simp [hol], fun j hj2 => ?_⟩
      rw [getD_set (by omega)]
      by_cases e : i = j
      · rw [if_pos e]; omega
      · rw [if_neg e]; exact hj j (by omega)
    · simp (maxSteps := 2000000) (disch := first | omega | assumption | (simp only [oneC_int, oneC_bool, oneC_str, oneC_ptr, oneC_sl, oneC_map]; done) | (simp only [List.length_cons, List.length_nil, List.length_set, List.length_map, List.length_replicate, List.length_append, List.length_take, List.length_drop, Int.toNat_natCast] <;> omega) | fail) only [Go.Rx.vi, Go.Rx.vb, Go.Rx.vstr, rxc, rxo, Nat.reduceLeDiff, List.getElem?_cons_zero, List.getElem?_cons_succ, List.length_cons, List.length_nil, List.set_cons_zero, List.set_cons_succ, ↓reduceIte, Bool.not_true, Bool.not_false, true_and, and_true, not_true_eq_false, not_false_eq_true, decide_true, decide_false, Nat.reduceEqDiff, Nat.reduceAdd, Nat.reduceMul, Nat.reducePow, Int.reduceToNat, Int.reducePow, Nat.zero_add, Nat.mul_one, Int.toNat_natCast, e1, e2, e5, e6, e7, e8]
      exact ⟨ol, oo, oc, gp, .id hol fun j hj2 => hj j (by omega)⟩
  rintro e hh ⟨ol, e1, e2, e5, e6, e7, e8, oo, oc, gp, po⟩
  simp (maxSteps := 2000000) (disch := first | omega | assumption | (simp only [oneC_int, oneC_bool, oneC_str, oneC_ptr, oneC_sl, oneC_map]; done) | (simp only [List.length_cons, List.length_nil, List.length_set, List.length_map, List.length_replicate, List.length_append, List.length_take, List.length_drop, Int.toNat_natCast] <;> omega) | fail) only [Go.Rx.vi, Go.Rx.vb, Go.Rx.vstr, rxc, rxo, Nat.reduceLeDiff, List.getElem?_cons_zero, List.getElem?_cons_succ, List.length_cons, List.length_nil, List.set_cons_zero, List.set_cons_succ, ↓reduceIte, Bool.not_true, Bool.not_false, true_and, and_true, not_true_eq_false, not_false_eq_true, decide_true, decide_false, Nat.reduceEqDiff, Nat.reduceAdd, Nat.reduceMul, Nat.reducePow, Int.reduceToNat, Int.reducePow, Nat.zero_add, Nat.mul_one, Int.toNat_natCast, R4_12]
  have zc := gp.next
  refine WC_bloop 22 (fun m e hh => ∃ (i : Nat) (cl : List Int), m = (d.next.getD 0 []).length - i ∧ i ≤ (d.next.getD 0 []).length ∧ e.g 1 = vt ∧ e.g 2 = pB h.next ∧ e.g 5 = .int .i64 d.next.length ∧ e.g 6 = .int .i64 (d.next.getD 0 []).length ∧ e.g 7 = vo ∧ e.g 8 = vc ∧ e.g 10 = .int .i64 i ∧
      OwnV hh 3 vo (ol.map (.int .i64)) ∧ OwnV hh 3 vc (cl.map (.int .i64)) ∧ GrowP h4 hh ∧ cl.length = (d.next.getD 0 []).length ∧ ∀ j : Nat, j < i → cl.getD j 0 = j)
    (fun e hh => ∃ (cl : List Int), e.g 1 = vt ∧ e.g 2 = pB h.next ∧ e.g 5 = .int .i64 d.next.length ∧ e.g 6 = .int .i64 (d.next.getD 0 []).length ∧ e.g 7 = vo ∧ e.g 8 = vc ∧
      OwnV hh 3 vo (ol.map (.int .i64)) ∧ OwnV hh 3 vc (cl.map (.int .i64)) ∧ GrowP h4 hh ∧ Prm (d.next.getD 0 []).length cl) ?_ ?_ ?_
  · refine ⟨_, 0, _, rfl, by omega, ?_, ?_, ?_, ?_, ?_, ?_, ?_, oo, oc, gp, by simp, fun j hj => by omega⟩
    all_goals simp (maxSteps := 2000000) (disch := first | omega | assumption | (simp only [oneC_int, oneC_bool, oneC_str, oneC_ptr, oneC_sl, oneC_map]; done) | (simp only [List.length_cons, List.length_nil, List.length_set, List.length_map, List.length_replicate, List.length_append, List.length_take, List.length_drop, Int.toNat_natCast] <;> omega) | fail) only [Go.Rx.vi, Go.Rx.vb, Go.Rx.vstr, rxc, rxo, Nat.reduceLeDiff, List.getElem?_cons_zero, List.getElem?_cons_succ, List.length_cons, List.length_nil, List.set_cons_zero, List.set_cons_succ, ↓reduceIte, Bool.not_true, Bool.not_false, true_and, and_true, not_true_eq_false, not_false_eq_true, decide_true, decide_false, Nat.reduceEqDiff, Nat.reduceAdd, Nat.reduceMul, Nat.reducePow, Int.reduceToNat, Int.reducePow, Nat.zero_add, Nat.mul_one, Int.toNat_natCast, e1, e2, e5, e6, e7, e8]
    rfl
  · rintro m e hh ⟨i, cl, rfl, hi, e1, e2, e5, e6, e7, e8, e9, oo, oc, gp, hol, hj⟩
    simp (maxSteps := 2000000) (disch := first | omega | assumption | (simp only [oneC_int, oneC_bool, oneC_str, oneC_ptr, oneC_sl, oneC_map]; done) | (simp only [List.length_cons, List.length_nil, List.length_set, List.length_map, List.length_replicate, List.length_append, List.length_take, List.length_drop, Int.toNat_natCast] <;> omega) | fail) only [Go.Rx.vi, Go.Rx.vb, Go.Rx.vstr, rxc, rxo, Nat.reduceLeDiff, List.getElem?_cons_zero, List.getElem?_cons_succ, List.length_cons, List.length_nil, List.set_cons_zero, List.set_cons_succ, ↓reduceIte, Bool.not_true, Bool.not_false, true_and, and_true, not_true_eq_false, not_false_eq_true, decide_true, decide_false, Nat.reduceEqDiff, Nat.reduceAdd, Nat.reduceMul, Nat.reducePow, Int.reduceToNat, Int.reducePow, Nat.zero_add, Nat.mul_one, Int.toNat_natCast, B4_1, R4_13, e1, e2, e5, e6, e7, e8, e9]
    refine WCond_dec (fun hc => ?_) (fun hc => ?_)
    · have orr := oc.sl.r
      simp only [List.length_map, hol] at orr
      simp (maxSteps := 2000000) (disch := first | omega | assumption | (simp only [oneC_int, oneC_bool, oneC_str, oneC_ptr, oneC_sl, oneC_map]; done) | (simp only [List.length_cons, List.length_nil, List.length_set, List.length_map, List.length_replicate, List.length_append, List.length_take, List.length_drop, Int.toNat_natCast] <;> omega) | fail) only [Go.Rx.vi, Go.Rx.vb, Go.Rx.vstr, rxc, rxo, Nat.reduceLeDiff, List.getElem?_cons_zero, List.getElem?_cons_succ, List.length_cons, List.length_nil, List.set_cons_zero, List.set_cons_succ, ↓reduceIte, Bool.not_true, Bool.not_false, true_and, and_true, not_true_eq_false, not_false_eq_true, decide_true, decide_false, Nat.reduceEqDiff, Nat.reduceAdd, Nat.reduceMul, Nat.reducePow, Int.reduceToNat, Int.reducePow, Nat.zero_add, Nat.mul_one, Int.toNat_natCast, R4_14, e1, e2, e5, e6, e7, e8, e9, orr]
      refine WI_storec oc (by rw [List.length_map]; omega) rfl fun hx ox cx => ?_
      rw [ints_set] at ox
      simp (maxSteps := 2000000) (disch := first | omega | assumption | (simp only [oneC_int, oneC_bool, oneC_str, oneC_ptr, oneC_sl, oneC_map]; done) | (simp only [List.length_cons, List.length_nil, List.length_set, List.length_map, List.length_replicate, List.length_append, List.length_take, List.length_drop, Int.toNat_natCast] <;> omega) | fail) only [Go.Rx.vi, Go.Rx.vb, Go.Rx.vstr, rxc, rxo, Nat.reduceLeDiff, List.getElem?_cons_zero, List.getElem?_cons_succ, List.length_cons, List.length_nil, List.set_cons_zero, List.set_cons_succ, ↓reduceIte, Bool.not_true, Bool.not_false, true_and, and_true, not_true_eq_false, not_false_eq_true, decide_true, decide_false, Nat.reduceEqDiff, Nat.reduceAdd, Nat.reduceMul, Nat.reducePow, Int.reduceToNat, Int.reducePow, Nat.zero_add, Nat.mul_one, Int.toNat_natCast, R4_15, e1, e2, e5, e6, e7, e8, e9]
      refine ⟨_, by omega, i + 1, _, rfl, by omega, by simp, oo.chg cx (by omega), ox, gp.chg cx (by omega), by simp [hol], fun j hj2 => ?_⟩
      rw [getD_set (by omega)]
      by_cases e : i = j
      · rw [if_pos e]; omega
      · rw [if_neg e]; exact hj j (by omega)
    · simp (maxSteps := 2000000) (disch := first | omega | assumption | (simp only [oneC_int, oneC_bool, oneC_str, oneC_ptr, oneC_sl, oneC_map]; done) | (simp only [List.length_cons, List.length_nil, List.length_set, List.length_map, List.length_replicate, List.length_append, List.length_take, List.length_drop, Int.toNat_natCast] <;> omega) | fail) only [Go.Rx.vi, Go.Rx.vb, Go.Rx.vstr, rxc, rxo, Nat.reduceLeDiff, List.getElem?_cons_zero, List.getElem?_cons_succ, List.length_cons, List.length_nil, List.set_cons_zero, List.set_cons_succ, ↓reduceIte, Bool.not_true, Bool.not_false, true_and, and_true, not_true_eq_false, not_false_eq_true, decide_true, decide_false, Nat.reduceEqDiff, Nat.reduceAdd, Nat.reduceMul, Nat.reducePow, Int.reduceToNat, Int.reducePow, Nat.zero_add, Nat.mul_one, Int.toNat_natCast, e1, e2, e5, e6, e7, e8]
      exact ⟨cl, oo, oc, gp, .id hol fun j hj2 => hj j (by omega)⟩
  rintro e hh ⟨cl, e1, e2, e5, e6, e7, e8, oo, oc, gp, pc⟩
  simp (maxSteps := 2000000) (disch := first | omega | assumption | (simp only [oneC_int, oneC_bool, oneC_str, oneC_ptr, oneC_sl, oneC_map]; done) | (simp only [List.length_cons, List.length_nil, List.length_set, List.length_map, List.length_replicate, List.length_append, List.length_take, List.length_drop, Int.toNat_natCast] <;> omega) | fail) only [Go.Rx.vi, Go.Rx.vb, Go.Rx.vstr, rxc, rxo, Nat.reduceLeDiff, List.getElem?_cons_zero, List.getElem?_cons_succ, List.length_cons, List.length_nil, List.set_cons_zero, List.set_cons_succ, ↓reduceIte, Bool.not_true, Bool.not_false, true_and, and_true, not_true_eq_false, not_false_eq_true, decide_true, decide_false, Nat.reduceEqDiff, Nat.reduceAdd, Nat.reduceMul, Nat.reducePow, Int.reduceToNat, Int.reducePow, Nat.zero_add, Nat.mul_one, Int.toNat_natCast, R4_16]
  refine WC_bloop 22 (fun m e hh => ∃ (i : Nat) (ol cl : List Int), m = ts.length - i ∧ i ≤ ts.length ∧ e.g 1 = vt ∧ e.g 2 = pB h.next ∧ e.g 5 = .int .i64 d.next.length ∧ e.g 6 = .int .i64 (d.next.getD 0 []).length ∧ e.g 7 = vo ∧ e.g 8 = vc ∧ e.g 11 = .int .i64 i ∧
      OwnV hh 3 vo (ol.map (.int .i64)) ∧ OwnV hh 3 vc (cl.map (.int .i64)) ∧ GrowP h4 hh ∧ Prm d.next.length ol ∧ Prm (d.next.getD 0 []).length cl)
    (fun e hh => ∃ (ol cl : List Int), e.g 1 = vt ∧ e.g 2 = pB h.next ∧ e.g 5 = .int .i64 d.next.length ∧ e.g 6 = .int .i64 (d.next.getD 0 []).length ∧ e.g 7 = vo ∧ e.g 8 = vc ∧
      OwnV hh 3 vo (ol.map (.int .i64)) ∧ OwnV hh 3 vc (cl.map (.int .i64)) ∧ GrowP h4 hh ∧ Prm d.next.length ol ∧ Prm (d.next.getD 0 []).length cl) ?_ ?_ ?_
  · refine ⟨_, 0, ol, cl, rfl, by omega, ?_, ?_, ?_, ?_, ?_, ?_, ?_, oo, oc, gp, po, pc⟩
    all_goals simp (maxSteps := 2000000) (disch := first | omega | assumption | (simp only [oneC_int, oneC_bool, oneC_str, oneC_ptr, oneC_sl, oneC_map]; done) | (simp only [List.length_cons, List.length_nil, List.length_set, List.length_map, List.length_replicate, List.length_append, List.length_take, List.length_drop, Int.toNat_natCast] <;> omega) | fail) only [Go.Rx.vi, Go.Rx.vb, Go.Rx.vstr, rxc, rxo, Nat.reduceLeDiff, List.getElem?_cons_zero, List.getElem?_cons_succ, List.length_cons, List.length_nil, List.set_cons_zero, List.set_cons_succ, ↓reduceIte, Bool.not_true, Bool.not_false, true_and, and_true, not_true_eq_false, not_false_eq_true, decide_true, decide_false, Nat.reduceEqDiff, Nat.reduceAdd, Nat.reduceMul, Nat.reducePow, Int.reduceToNat, Int.reducePow, Nat.zero_add, Nat.mul_one, Int.toNat_natCast, e1, e2, e5, e6, e7, e8]
    rfl
  · rintro m e hh ⟨i, ol, cl, rfl, hi, e1, e2, e5, e6, e7, e8, e11, oo, oc, gp, po, pc⟩
    have zn := gp.next
    have tr := (ht.gp (g1.p.trans (g2.p.trans (g3.p.trans (g4.p.trans gp))))).r
    simp only [List.length_map] at tr
    have hol := po.len
    have hcl := pc.len
    have orr := oo.sl.r
    have crr := oc.sl.r
    simp only [List.length_map, hol, hcl] at orr crr
    simp (maxSteps := 2000000) (disch := first | omega | assumption | (simp only [oneC_int, oneC_bool, oneC_str, oneC_ptr, oneC_sl, oneC_map]; done) | (simp only [List.length_cons, List.length_nil, List.length_set, List.length_map, List.length_replicate, List.length_append, List.length_take, List.length_drop, Int.toNat_natCast] <;> omega) | fail) only [Go.Rx.vi, Go.Rx.vb, Go.Rx.vstr, rxc, rxo, Nat.reduceLeDiff, List.getElem?_cons_zero, List.getElem?_cons_succ, List.length_cons, List.length_nil, List.set_cons_zero, List.set_cons_succ, ↓reduceIte, Bool.not_true, Bool.not_false, true_and, and_true, not_true_eq_false, not_false_eq_true, decide_true, decide_false, Nat.reduceEqDiff, Nat.reduceAdd, Nat.reduceMul, Nat.reducePow, Int.reduceToNat, Int.reducePow, Nat.zero_add, Nat.mul_one, Int.toNat_natCast, B4_2, R4_17, e1, e2, e5, e6, e7, e8, e11, tr]
    refine WG_dec (fun hc => ?_) (fun hc => ?_)
    · simp (maxSteps := 2000000) (disch := first | omega | assumption | (simp only [oneC_int, oneC_bool, oneC_str, oneC_ptr, oneC_sl, oneC_map]; done) | (simp only [List.length_cons, List.length_nil, List.length_set, List.length_map, List.length_replicate, List.length_append, List.length_take, List.length_drop, Int.toNat_natCast] <;> omega) | fail) only [Go.Rx.vi, Go.Rx.vb, Go.Rx.vstr, rxc, rxo, Nat.reduceLeDiff, List.getElem?_cons_zero, List.getElem?_cons_succ, List.length_cons, List.length_nil, List.set_cons_zero, List.set_cons_succ, ↓reduceIte, Bool.not_true, Bool.not_false, true_and, and_true, not_true_eq_false, not_false_eq_true, decide_true, decide_false, Nat.reduceEqDiff, Nat.reduceAdd, Nat.reduceMul, Nat.reducePow, Int.reduceToNat, Int.reducePow, Nat.zero_add, Nat.mul_one, Int.toNat_natCast, e1, e2, e5, e6, e7, e8, e11]
      refine WCond_dec (fun hc2 => ?_) (fun hc2 => ?_)
      · obtain ⟨a, ha, ea⟩ := tmod_nat (a := i) (n := d.next.length) (by omega)
        obtain ⟨a2, ha2, ea2⟩ := tmod_nat (a := i) (n := (d.next.getD 0 []).length) (by omega)
        simp (maxSteps := 2000000) (disch := first | omega | assumption | (simp only [oneC_int, oneC_bool, oneC_str, oneC_ptr, oneC_sl, oneC_map]; done) | (simp only [List.length_cons, List.length_nil, List.length_set, List.length_map, List.length_replicate, List.length_append, List.length_take, List.length_drop, Int.toNat_natCast] <;> omega) | fail) only [Go.Rx.vi, Go.Rx.vb, Go.Rx.vstr, rxc, rxo, Nat.reduceLeDiff, List.getElem?_cons_zero, List.getElem?_cons_succ, List.length_cons, List.length_nil, List.set_cons_zero, List.set_cons_succ, ↓reduceIte, Bool.not_true, Bool.not_false, true_and, and_true, not_true_eq_false, not_false_eq_true, decide_true, decide_false, Nat.reduceEqDiff, Nat.reduceAdd, Nat.reduceMul, Nat.reducePow, Int.reduceToNat, Int.reducePow, Nat.zero_add, Nat.mul_one, Int.toNat_natCast, R4_18, e1, e2, e5, e6, e7, e8, e11, tr, ints_get, R4_19]
        have hx0 : -4096 < (ts.getD i 0).tmod 4096 ∧ (ts.getD i 0).tmod 4096 < 4096 := ⟨Int.lt_tmod_of_pos _ (by decide), Int.tmod_lt_of_pos _ (by decide)⟩
        generalize (ts.getD i 0).tmod 4096 = x at hx0 ⊢
        refine WCond_dec (fun hneg => ?_) (fun hneg => ?_)
        · obtain ⟨j, hj⟩ : ∃ j : Nat, x + 4096 = j := ⟨(x + 4096).toNat, by omega⟩
          simp (maxSteps := 2000000) (disch := first | omega | assumption | (simp only [oneC_int, oneC_bool, oneC_str, oneC_ptr, oneC_sl, oneC_map]; done) | (simp only [List.length_cons, List.length_nil, List.length_set, List.length_map, List.length_replicate, List.length_append, List.length_take, List.length_drop, Int.toNat_natCast] <;> omega) | fail) only [Go.Rx.vi, Go.Rx.vb, Go.Rx.vstr, rxc, rxo, Nat.reduceLeDiff, List.getElem?_cons_zero, List.getElem?_cons_succ, List.length_cons, List.length_nil, List.set_cons_zero, List.set_cons_succ, ↓reduceIte, Bool.not_true, Bool.not_false, true_and, and_true, not_true_eq_false, not_false_eq_true, decide_true, decide_false, Nat.reduceEqDiff, Nat.reduceAdd, Nat.reduceMul, Nat.reducePow, Int.reduceToNat, Int.reducePow, Nat.zero_add, Nat.mul_one, Int.toNat_natCast, R4_20, e1, e2, e5, e6, e7, e8, e11, hj]
          obtain ⟨b, hb, eb⟩ := tmod_nat (a := j) (n := d.next.length) (by omega)
          obtain ⟨b2, hb2, eb2⟩ := tmod_nat (a := j) (n := (d.next.getD 0 []).length) (by omega)
          refine WC_regd0 hm ?_
          simp (maxSteps := 2000000) (disch := first | omega | assumption | (simp only [oneC_int, oneC_bool, oneC_str, oneC_ptr, oneC_sl, oneC_map]; done) | (simp only [List.length_cons, List.length_nil, List.length_set, List.length_map, List.length_replicate, List.length_append, List.length_take, List.length_drop, Int.toNat_natCast] <;> omega) | fail) only [Go.Rx.vi, Go.Rx.vb, Go.Rx.vstr, rxc, rxo, Nat.reduceLeDiff, List.getElem?_cons_zero, List.getElem?_cons_succ, List.length_cons, List.length_nil, List.set_cons_zero, List.set_cons_succ, ↓reduceIte, Bool.not_true, Bool.not_false, true_and, and_true, not_true_eq_false, not_false_eq_true, decide_true, decide_false, Nat.reduceEqDiff, Nat.reduceAdd, Nat.reduceMul, Nat.reducePow, Int.reduceToNat, Int.reducePow, Nat.zero_add, Nat.mul_one, Int.toNat_natCast, R4_21, e1, e2, e5, e6, e7, e8, e11, hj, ea, eb, orr, ints_get]
          refine WI_storec oo (by rw [List.length_map]; omega) rfl fun hx ox cx => ?_
          rw [ints_set] at ox
          have ocx := oc.chg cx (by omega)
          have gpx := gp.chg cx (by omega)
          have nx := cx.next
          have orx := ox.sl.r
          simp only [List.length_map, List.length_set, hol] at orx
          simp (maxSteps := 2000000) (disch := first | omega | assumption | (simp only [oneC_int, oneC_bool, oneC_str, oneC_ptr, oneC_sl, oneC_map]; done) | (simp only [List.length_cons, List.length_nil, List.length_set, List.length_map, List.length_replicate, List.length_append, List.length_take, List.length_drop, Int.toNat_natCast] <;> omega) | fail) only [Go.Rx.vi, Go.Rx.vb, Go.Rx.vstr, rxc, rxo, Nat.reduceLeDiff, List.getElem?_cons_zero, List.getElem?_cons_succ, List.length_cons, List.length_nil, List.set_cons_zero, List.set_cons_succ, ↓reduceIte, Bool.not_true, Bool.not_false, true_and, and_true, not_true_eq_false, not_false_eq_true, decide_true, decide_false, Nat.reduceEqDiff, Nat.reduceAdd, Nat.reduceMul, Nat.reducePow, Int.reduceToNat, Int.reducePow, Nat.zero_add, Nat.mul_one, Int.toNat_natCast, e1, e2, e5, e6, e7, e8, e11, hj, orx]
          refine WI_storec ox (by rw [List.length_map, List.length_set]; omega) rfl fun hy oy cy => ?_
          rw [ints_set] at oy
          have ocy := ocx.chg cy (by omega)
          have gpy := gpx.chg cy (by omega)
          have ny := cy.next
          have cry := ocy.sl.r
          simp only [List.length_map, hcl] at cry
          simp (maxSteps := 2000000) (disch := first | omega | assumption | (simp only [oneC_int, oneC_bool, oneC_str, oneC_ptr, oneC_sl, oneC_map]; done) | (simp only [List.length_cons, List.length_nil, List.length_set, List.length_map, List.length_replicate, List.length_append, List.length_take, List.length_drop, Int.toNat_natCast] <;> omega) | fail) only [Go.Rx.vi, Go.Rx.vb, Go.Rx.vstr, rxc, rxo, Nat.reduceLeDiff, List.getElem?_cons_zero, List.getElem?_cons_succ, List.length_cons, List.length_nil, List.set_cons_zero, List.set_cons_succ, ↓reduceIte, Bool.not_true, Bool.not_false, true_and, and_true, not_true_eq_false, not_false_eq_true, decide_true, decide_false, Nat.reduceEqDiff, Nat.reduceAdd, Nat.reduceMul, Nat.reducePow, Int.reduceToNat, Int.reducePow, Nat.zero_add, Nat.mul_one, Int.toNat_natCast]
          refine WC_regd0 hm ?_
          simp (maxSteps := 2000000) (disch := first | omega | assumption | (simp only [oneC_int, oneC_bool, oneC_str, oneC_ptr, oneC_sl, oneC_map]; done) | (simp only [List.length_cons, List.length_nil, List.length_set, List.length_map, List.length_replicate, List.length_append, List.length_take, List.length_drop, Int.toNat_natCast] <;> omega) | fail) only [Go.Rx.vi, Go.Rx.vb, Go.Rx.vstr, rxc, rxo, Nat.reduceLeDiff, List.getElem?_cons_zero, List.getElem?_cons_succ, List.length_cons, List.length_nil, List.set_cons_zero, List.set_cons_succ, ↓reduceIte, Bool.not_true, Bool.not_false, true_and, and_true, not_true_eq_false, not_false_eq_true, decide_true, decide_false, Nat.reduceEqDiff, Nat.reduceAdd, Nat.reduceMul, Nat.reducePow, Int.reduceToNat, Int.reducePow, Nat.zero_add, Nat.mul_one, Int.toNat_natCast, R4_22, e1, e2, e5, e6, e7, e8, e11, hj, ea2, eb2, cry, ints_get]
          refine WI_storec ocy (by rw [List.length_map]; omega) rfl fun hz oz cz => ?_
          rw [ints_set] at oz
          have ooz := oy.chg cz (by omega)
          have gpz := gpy.chg cz (by omega)
          have nz := cz.next
          have crz := oz.sl.r
          simp only [List.length_map, List.length_set, hcl] at crz
          simp (maxSteps := 2000000) (disch := first | omega | assumption | (simp only [oneC_int, oneC_bool, oneC_str, oneC_ptr, oneC_sl, oneC_map]; done) | (simp only [List.length_cons, List.length_nil, List.length_set, List.length_map, List.length_replicate, List.length_append, List.length_take, List.length_drop, Int.toNat_natCast] <;> omega) | fail) only [Go.Rx.vi, Go.Rx.vb, Go.Rx.vstr, rxc, rxo, Nat.reduceLeDiff, List.getElem?_cons_zero, List.getElem?_cons_succ, List.length_cons, List.length_nil, List.set_cons_zero, List.set_cons_succ, ↓reduceIte, Bool.not_true, Bool.not_false, true_and, and_true, not_true_eq_false, not_false_eq_true, decide_true, decide_false, Nat.reduceEqDiff, Nat.reduceAdd, Nat.reduceMul, Nat.reducePow, Int.reduceToNat, Int.reducePow, Nat.zero_add, Nat.mul_one, Int.toNat_natCast, e1, e2, e5, e6, e7, e8, e11, hj, crz]
          refine WI_storec oz (by rw [List.length_map, List.length_set]; omega) rfl fun hw ow cw => ?_
          rw [ints_set] at ow
          simp (maxSteps := 2000000) (disch := first | omega | assumption | (simp only [oneC_int, oneC_bool, oneC_str, oneC_ptr, oneC_sl, oneC_map]; done) | (simp only [List.length_cons, List.length_nil, List.length_set, List.length_map, List.length_replicate, List.length_append, List.length_take, List.length_drop, Int.toNat_natCast] <;> omega) | fail) only [Go.Rx.vi, Go.Rx.vb, Go.Rx.vstr, rxc, rxo, Nat.reduceLeDiff, List.getElem?_cons_zero, List.getElem?_cons_succ, List.length_cons, List.length_nil, List.set_cons_zero, List.set_cons_succ, ↓reduceIte, Bool.not_true, Bool.not_false, true_and, and_true, not_true_eq_false, not_false_eq_true, decide_true, decide_false, Nat.reduceEqDiff, Nat.reduceAdd, Nat.reduceMul, Nat.reducePow, Int.reduceToNat, Int.reducePow, Nat.zero_add, Nat.mul_one, Int.toNat_natCast, e1, e2, e5, e6, e7, e8, e11, R4_23]
          exact ⟨_, by omega, i + 1, _, _, rfl, by omega, by simp, ooz.chg cw (by omega), ow, gpz.chg cw (by omega), po.swap ha hb, pc.swap ha2 hb2⟩
        · obtain ⟨j, hj⟩ : ∃ j : Nat, x = j := ⟨x.toNat, by omega⟩
          simp (maxSteps := 2000000) (disch := first | omega | assumption | (simp only [oneC_int, oneC_bool, oneC_str, oneC_ptr, oneC_sl, oneC_map]; done) | (simp only [List.length_cons, List.length_nil, List.length_set, List.length_map, List.length_replicate, List.length_append, List.length_take, List.length_drop, Int.toNat_natCast] <;> omega) | fail) only [Go.Rx.vi, Go.Rx.vb, Go.Rx.vstr, rxc, rxo, Nat.reduceLeDiff, List.getElem?_cons_zero, List.getElem?_cons_succ, List.length_cons, List.length_nil, List.set_cons_zero, List.set_cons_succ, ↓reduceIte, Bool.not_true, Bool.not_false, true_and, and_true, not_true_eq_false, not_false_eq_true, decide_true, decide_false, Nat.reduceEqDiff, Nat.reduceAdd, Nat.reduceMul, Nat.reducePow, Int.reduceToNat, Int.reducePow, Nat.zero_add, Nat.mul_one, Int.toNat_natCast, e1, e2, e5, e6, e7, e8, e11, hj]
          obtain ⟨b, hb, eb⟩ := tmod_nat (a := j) (n := d.next.length) (by omega)
          obtain ⟨b2, hb2, eb2⟩ := tmod_nat (a := j) (n := (d.next.getD 0 []).length) (by omega)
          refine WC_regd0 hm ?_
          simp (maxSteps := 2000000) (disch := first | omega | assumption | (simp only [oneC_int, oneC_bool, oneC_str, oneC_ptr, oneC_sl, oneC_map]; done) | (simp only [List.length_cons, List.length_nil, List.length_set, List.length_map, List.length_replicate, List.length_append, List.length_take, List.length_drop, Int.toNat_natCast] <;> omega) | fail) only [Go.Rx.vi, Go.Rx.vb, Go.Rx.vstr, rxc, rxo, Nat.reduceLeDiff, List.getElem?_cons_zero, List.getElem?_cons_succ, List.length_cons, List.length_nil, List.set_cons_zero, List.set_cons_succ, ↓reduceIte, Bool.not_true, Bool.not_false, true_and, and_true, not_true_eq_false, not_false_eq_true, decide_true, decide_false, Nat.reduceEqDiff, Nat.reduceAdd, Nat.reduceMul, Nat.reducePow, Int.reduceToNat, Int.reducePow, Nat.zero_add, Nat.mul_one, Int.toNat_natCast, R4_21, e1, e2, e5, e6, e7, e8, e11, hj, ea, eb, orr, ints_get]
          refine WI_storec oo (by rw [List.length_map]; omega) rfl fun hx ox cx => ?_
          rw [ints_set] at ox
          have ocx := oc.chg cx (by omega)
          have gpx := gp.chg cx (by omega)
          have nx := cx.next
          have orx := ox.sl.r
          simp only [List.length_map, List.length_set, hol] at orx
          simp (maxSteps := 2000000) (disch := first | omega | assumption | (simp only [oneC_int, oneC_bool, oneC_str, oneC_ptr, oneC_sl, oneC_map]; done) | (simp only [List.length_cons, List.length_nil, List.length_set, List.length_map, List.length_replicate, List.length_append, List.length_take, List.length_drop, Int.toNat_natCast] <;> omega) | fail) only [Go.Rx.vi, Go.Rx.vb, Go.Rx.vstr, rxc, rxo, Nat.reduceLeDiff, List.getElem?_cons_zero, List.getElem?_cons_succ, List.length_cons, List.length_nil, List.set_cons_zero, List.set_cons_succ, ↓reduceIte, Bool.not_true, Bool.not_false, true_and, and_true, not_true_eq_false, not_false_eq_true, decide_true, decide_false, Nat.reduceEqDiff, Nat.reduceAdd, Nat.reduceMul, Nat.reducePow, Int.reduceToNat, Int.reducePow, Nat.zero_add, Nat.mul_one, Int.toNat_natCast, e1, e2, e5, e6, e7, e8, e11, hj, orx]
          refine WI_storec ox (by rw [List.length_map, List.length_set]; omega) rfl fun hy oy cy => ?_
          rw [ints_set] at oy
          have ocy := ocx.chg cy (by omega)
          have gpy := gpx.chg cy (by omega)
          have ny := cy.next
          have cry := ocy.sl.r
          simp only [List.length_map, hcl] at cry
          simp (maxSteps := 2000000) (disch := first | omega | assumption | (simp only [oneC_int, oneC_bool, oneC_str, oneC_ptr, oneC_sl, oneC_map]; done) | (simp only [List.length_cons, List.length_nil, List.length_set, List.length_map, List.length_replicate, List.length_append, List.length_take, List.length_drop, Int.toNat_natCast] <;> omega) | fail) only [Go.Rx.vi, Go.Rx.vb, Go.Rx.vstr, rxc, rxo, Nat.reduceLeDiff, List.getElem?_cons_zero, List.getElem?_cons_succ, List.length_cons, List.length_nil, List.set_cons_zero, List.set_cons_succ, ↓reduceIte, Bool.not_true, Bool.not_false, true_and, and_true, not_true_eq_false, not_false_eq_true, decide_true, decide_false, Nat.reduceEqDiff, Nat.reduceAdd, Nat.reduceMul, Nat.reducePow, Int.reduceToNat, Int.reducePow, Nat.zero_add, Nat.mul_one, Int.toNat_natCast]
          refine WC_regd0 hm ?_
          simp (maxSteps := 2000000) (disch := first | omega | assumption | (simp only [oneC_int, oneC_bool, oneC_str, oneC_ptr, oneC_sl, oneC_map]; done) | (simp only [List.length_cons, List.length_nil, List.length_set, List.length_map, List.length_replicate, List.length_append, List.length_take, List.length_drop, Int.toNat_natCast] <;> omega) | fail) only [Go.Rx.vi, Go.Rx.vb, Go.Rx.vstr, rxc, rxo, Nat.reduceLeDiff, List.getElem?_cons_zero, List.getElem?_cons_succ, List.length_cons, List.length_nil, List.set_cons_zero, List.set_cons_succ, ↓reduceIte, Bool.not_true, Bool.not_false, true_and, and_true, not_true_eq_false, not_false_eq_true, decide_true, decide_false, Nat.reduceEqDiff, Nat.reduceAdd, Nat.reduceMul, Nat.reducePow, Int.reduceToNat, Int.reducePow, Nat.zero_add, Nat.mul_one, Int.toNat_natCast, R4_22, e1, e2, e5, e6, e7, e8, e11, hj, ea2, eb2, cry, ints_get]
          refine WI_storec ocy (by rw [List.length_map]; omega) rfl fun hz oz cz => ?_
          rw [ints_set] at oz
          have ooz := oy.chg cz (by omega)
          have gpz := gpy.chg cz (by omega)
          have nz := cz.next
          have crz := oz.sl.r
          simp only [List.length_map, List.length_set, hcl] at crz
          simp (maxSteps := 2000000) (disch := first | omega | assumption | (simp only [oneC_int, oneC_bool, oneC_str, oneC_ptr, oneC_sl, oneC_map]; done) | (simp only [List.length_cons, List.length_nil, List.length_set, List.length_map, List.length_replicate, List.length_append, List.length_take, List.length_drop, Int.toNat_natCast] <;> omega) | fail) only [Go.Rx.vi, Go.Rx.vb, Go.Rx.vstr, rxc, rxo, Nat.reduceLeDiff, List.getElem?_cons_zero, List.getElem?_cons_succ, List.length_cons, List.length_nil, List.set_cons_zero, List.set_cons_succ, ↓reduceIte, Bool.not_true, Bool.not_false, true_and, and_true, not_true_eq_false, not_false_eq_true, decide_true, decide_false, Nat.reduceEqDiff, Nat.reduceAdd, Nat.reduceMul, Nat.reducePow, Int.reduceToNat, Int.reducePow, Nat.zero_add, Nat.mul_one, Int.toNat_natCast, e1, e2, e5, e6, e7, e8, e11, hj, crz]
          refine WI_storec oz (by rw [List.length_map, List.length_set]; omega) rfl fun hw ow cw => ?_
          rw [ints_set] at ow
          simp (maxSteps := 2000000) (disch := first | omega | assumption | (simp only [oneC_int, oneC_bool, oneC_str, oneC_ptr, oneC_sl, oneC_map]; done) | (simp only [List.length_cons, List.length_nil, List.length_set, List.length_map, List.length_replicate, List.length_append, List.length_take, List.length_drop, Int.toNat_natCast] <;> omega) | fail) only [Go.Rx.vi, Go.Rx.vb, Go.Rx.vstr, rxc, rxo, Nat.reduceLeDiff, List.getElem?_cons_zero, List.getElem?_cons_succ, List.length_cons, List.length_nil, List.set_cons_zero, List.set_cons_succ, ↓reduceIte, Bool.not_true, Bool.not_false, true_and, and_true, not_true_eq_false, not_false_eq_true, decide_true, decide_false, Nat.reduceEqDiff, Nat.reduceAdd, Nat.reduceMul, Nat.reducePow, Int.reduceToNat, Int.reducePow, Nat.zero_add, Nat.mul_one, Int.toNat_natCast, e1, e2, e5, e6, e7, e8, e11, R4_23]
          exact ⟨_, by omega, i + 1, _, _, rfl, by omega, by simp, ooz.chg cw (by omega), ow, gpz.chg cw (by omega), po.swap ha hb, pc.swap ha2 hb2⟩
      · simp (maxSteps := 2000000) (disch := first | omega | assumption | (simp only [oneC_int, oneC_bool, oneC_str, oneC_ptr, oneC_sl, oneC_map]; done) | (simp only [List.length_cons, List.length_nil, List.length_set, List.length_map, List.length_replicate, List.length_append, List.length_take, List.length_drop, Int.toNat_natCast] <;> omega) | fail) only [Go.Rx.vi, Go.Rx.vb, Go.Rx.vstr, rxc, rxo, Nat.reduceLeDiff, List.getElem?_cons_zero, List.getElem?_cons_succ, List.length_cons, List.length_nil, List.set_cons_zero, List.set_cons_succ, ↓reduceIte, Bool.not_true, Bool.not_false, true_and, and_true, not_true_eq_false, not_false_eq_true, decide_true, decide_false, Nat.reduceEqDiff, Nat.reduceAdd, Nat.reduceMul, Nat.reducePow, Int.reduceToNat, Int.reducePow, Nat.zero_add, Nat.mul_one, Int.toNat_natCast, e1, e2, e5, e6, e7, e8]
        exact ⟨ol, cl, oo, oc, gp, po, pc⟩
    · simp (maxSteps := 2000000) (disch := first | omega | assumption | (simp only [oneC_int, oneC_bool, oneC_str, oneC_ptr, oneC_sl, oneC_map]; done) | (simp only [List.length_cons, List.length_nil, List.length_set, List.length_map, List.length_replicate, List.length_append, List.length_take, List.length_drop, Int.toNat_natCast] <;> omega) | fail) only [Go.Rx.vi, Go.Rx.vb, Go.Rx.vstr, rxc, rxo, Nat.reduceLeDiff, List.getElem?_cons_zero, List.getElem?_cons_succ, List.length_cons, List.length_nil, List.set_cons_zero, List.set_cons_succ, ↓reduceIte, Bool.not_true, Bool.not_false, true_and, and_true, not_true_eq_false, not_false_eq_true, decide_true, decide_false, Nat.reduceEqDiff, Nat.reduceAdd, Nat.reduceMul, Nat.reducePow, Int.reduceToNat, Int.reducePow, Nat.zero_add, Nat.mul_one, Int.toNat_natCast, e1, e2, e5, e6, e7, e8]
      exact ⟨ol, cl, oo, oc, gp, po, pc⟩
  rintro e hh ⟨ol, cl, e1, e2, e5, e6, e7, e8, oo, oc, gp, po, pc⟩
  have zn := gp.next
  have hool0 := oo.1
  have hocl0 := oc.1
  have bh : hh.at h.next = some (.cells (dfaC d.start d.cls vn vr) 34 true) := by rw [gp.at_ _ (by omega) (by omega)]; exact b4
  have hol := po.len
  have hcl := pc.len
  have orr := oo.sl.r
  simp only [List.length_map, hol] at orr
  have hos := po.rng d.start.toNat (by omega)
  simp (maxSteps := 2000000) (disch := first | omega | assumption | (simp only [oneC_int, oneC_bool, oneC_str, oneC_ptr, oneC_sl, oneC_map]; done) | (simp only [List.length_cons, List.length_nil, List.length_set, List.length_map, List.length_replicate, List.length_append, List.length_take, List.length_drop, Int.toNat_natCast] <;> omega) | fail) only [Go.Rx.vi, Go.Rx.vb, Go.Rx.vstr, rxc, rxo, Nat.reduceLeDiff, List.getElem?_cons_zero, List.getElem?_cons_succ, List.length_cons, List.length_nil, List.set_cons_zero, List.set_cons_succ, ↓reduceIte, Bool.not_true, Bool.not_false, true_and, and_true, not_true_eq_false, not_false_eq_true, decide_true, decide_false, Nat.reduceEqDiff, Nat.reduceAdd, Nat.reduceMul, Nat.reducePow, Int.reduceToNat, Int.reducePow, Nat.zero_add, Nat.mul_one, Int.toNat_natCast]
  refine WC_regd0 hm ?_
  simp (maxSteps := 2000000) (disch := first | omega | assumption | (simp only [oneC_int, oneC_bool, oneC_str, oneC_ptr, oneC_sl, oneC_map]; done) | (simp only [List.length_cons, List.length_nil, List.length_set, List.length_map, List.length_replicate, List.length_append, List.length_take, List.length_drop, Int.toNat_natCast] <;> omega) | fail) only [Go.Rx.vi, Go.Rx.vb, Go.Rx.vstr, rxc, rxo, Nat.reduceLeDiff, List.getElem?_cons_zero, List.getElem?_cons_succ, List.length_cons, List.length_nil, List.set_cons_zero, List.set_cons_succ, ↓reduceIte, Bool.not_true, Bool.not_false, true_and, and_true, not_true_eq_false, not_false_eq_true, decide_true, decide_false, Nat.reduceEqDiff, Nat.reduceAdd, Nat.reduceMul, Nat.reducePow, Int.reduceToNat, Int.reducePow, Nat.zero_add, Nat.mul_one, Int.toNat_natCast, R4_24, e1, e2, e5, e6, e7, e8, bh, dfaC_0, orr, ints_get]
  refine WI_makec (by omega) (by omega) (by omega) (by omega) (by omega) (by decide) fun vw hx ow gx fw => ?_
  simp only [Int.toNat_natCast] at ow
  have nx := gx.next
  simp (maxSteps := 2000000) (disch := first | omega | assumption | (simp only [oneC_int, oneC_bool, oneC_str, oneC_ptr, oneC_sl, oneC_map]; done) | (simp only [List.length_cons, List.length_nil, List.length_set, List.length_map, List.length_replicate, List.length_append, List.length_take, List.length_drop, Int.toNat_natCast] <;> omega) | fail) only [Go.Rx.vi, Go.Rx.vb, Go.Rx.vstr, rxc, rxo, Nat.reduceLeDiff, List.getElem?_cons_zero, List.getElem?_cons_succ, List.length_cons, List.length_nil, List.set_cons_zero, List.set_cons_succ, ↓reduceIte, Bool.not_true, Bool.not_false, true_and, and_true, not_true_eq_false, not_false_eq_true, decide_true, decide_false, Nat.reduceEqDiff, Nat.reduceAdd, Nat.reduceMul, Nat.reducePow, Int.reduceToNat, Int.reducePow, Nat.zero_add, Nat.mul_one, Int.toNat_natCast, e1, e2, e5, e6, e7, e8]
  refine WI_makec (by omega) (by omega) (by omega) (by omega) (by omega) (by decide) fun vy hy oy gy fy => ?_
  simp only [Int.toNat_natCast, ints_rep] at oy
  have ny := gy.next
  have owl := ow.1
  have ow := ow.gp gy
  have oyl := oy.1
  have gpy := gp.trans (gx.trans gy)
  have oo := oo.gp (gx.trans gy)
  have oc := oc.gp (gx.trans gy)
  have hool := oo.1
  have hocl := oc.1
  obtain ⟨pl0, epl⟩ : ∃ pl0 : List Int, List.replicate 256 0 = pl0 := ⟨_, rfl⟩
  have hpl0 : pl0.length = 256 := by rw [← epl]; simp
  have z259 : ∀ x y z, (dfaC x pl0 y z).length = 259 := fun x y z => dfaC_len hpl0
  obtain ⟨ost, eost⟩ : ∃ ost, ol.getD d.start.toNat 0 = ost := ⟨_, rfl⟩
  have zone : allOne (dfaC ost pl0 vw vy) = true := allOne_dfaC ow.sl.isSl oy.sl.isSl
  have zne : dfaC ost pl0 vw vy ≠ [] := fun e => by have := z259 ost vw vy; rw [e] at this; simp at this
  simp (maxSteps := 2000000) (disch := first | omega | assumption | (simp only [oneC_int, oneC_bool, oneC_str, oneC_ptr, oneC_sl, oneC_map]; done) | (simp only [List.length_cons, List.length_nil, List.length_set, List.length_map, List.length_replicate, List.length_append, List.length_take, List.length_drop, Int.toNat_natCast] <;> omega) | fail) only [Go.Rx.vi, Go.Rx.vb, Go.Rx.vstr, rxc, rxo, Nat.reduceLeDiff, List.getElem?_cons_zero, List.getElem?_cons_succ, List.length_cons, List.length_nil, List.set_cons_zero, List.set_cons_succ, ↓reduceIte, Bool.not_true, Bool.not_false, true_and, and_true, not_true_eq_false, not_false_eq_true, decide_true, decide_false, Nat.reduceEqDiff, Nat.reduceAdd, Nat.reduceMul, Nat.reducePow, Int.reduceToNat, Int.reducePow, Nat.zero_add, Nat.mul_one, Int.toNat_natCast, e1, e2, e5, e6, e7, e8, dfa0, epl, eost, z259, dfa_fill0 hpl0, dfa_fill257 hpl0, dfa_fill258 hpl0, cellsN_one ow.sl.oneC, cellsN_one oy.sl.oneC, stM_full zone zne ((z259 _ _ _).trans (z259 _ _ _).symm)]
  obtain ⟨hb, ehb, gb, nb, bb⟩ := boxed hy (dfaC 0 pl0 (.slice none 0 0) (.slice none 0 0)) 34
  rw [ehb]
  have cb : Chg hy.next hb (hb.set hy.next (some (.cells (dfaC ost pl0 vw vy) 34 true))) := Chg.set
  have bb2 : (hb.set hy.next (some (.cells (dfaC ost pl0 vw vy) 34 true))).at hy.next = _ := at_set_same
  generalize hb.set hy.next (some (.cells (dfaC ost pl0 vw vy) 34 true)) = hs at cb bb2 ⊢
  have gs : GrowP hy hs := gb.p.chg cb (by omega)
  have ns := cb.next
  have gps := gpy.trans gs
  have ow := ow.gp gs
  have oy := oy.gp gs
  have oo := oo.gp gs
  have oc := oc.gp gs
  simp (maxSteps := 2000000) (disch := first | omega | assumption | (simp only [oneC_int, oneC_bool, oneC_str, oneC_ptr, oneC_sl, oneC_map]; done) | (simp only [List.length_cons, List.length_nil, List.length_set, List.length_map, List.length_replicate, List.length_append, List.length_take, List.length_drop, Int.toNat_natCast] <;> omega) | fail) only [Go.Rx.vi, Go.Rx.vb, Go.Rx.vstr, rxc, rxo, Nat.reduceLeDiff, List.getElem?_cons_zero, List.getElem?_cons_succ, List.length_cons, List.length_nil, List.set_cons_zero, List.set_cons_succ, ↓reduceIte, Bool.not_true, Bool.not_false, true_and, and_true, not_true_eq_false, not_false_eq_true, decide_true, decide_false, Nat.reduceEqDiff, Nat.reduceAdd, Nat.reduceMul, Nat.reducePow, Int.reduceToNat, Int.reducePow, Nat.zero_add, Nat.mul_one, Int.toNat_natCast, R4_25]
  refine WC_bloop 22 (fun m e hh => ∃ (i : Nat) (pl : List Int), m = 256 - i ∧ i ≤ 256 ∧ e.g 2 = pB h.next ∧ e.g 5 = .int .i64 d.next.length ∧ e.g 6 = .int .i64 (d.next.getD 0 []).length ∧ e.g 7 = vo ∧ e.g 8 = vc ∧ e.g 13 = pB hy.next ∧ e.g 14 = .int .i64 i ∧
      hh.at hy.next = some (.cells (dfaC ost pl vw vy) 34 true) ∧ pl.length = 256 ∧ Chg hy.next hs hh ∧ ∀ j : Nat, j < i → pl.getD j 0 = cl.getD (d.cls.getD j 0).toNat 0)
    (fun e hh => ∃ (pl : List Int), e.g 2 = pB h.next ∧ e.g 5 = .int .i64 d.next.length ∧ e.g 6 = .int .i64 (d.next.getD 0 []).length ∧ e.g 7 = vo ∧ e.g 8 = vc ∧ e.g 13 = pB hy.next ∧
      hh.at hy.next = some (.cells (dfaC ost pl vw vy) 34 true) ∧ pl.length = 256 ∧ Chg hy.next hs hh ∧ ∀ j : Nat, j < 256 → pl.getD j 0 = cl.getD (d.cls.getD j 0).toNat 0) ?_ ?_ ?_
  · refine ⟨_, 0, pl0, rfl, by omega, ?_, ?_, ?_, ?_, ?_, ?_, ?_, bb2, hpl0, ⟨Nat.le_refl _, fun _ _ _ => rfl⟩, fun j hj => by omega⟩
    all_goals simp (maxSteps := 2000000) (disch := first | omega | assumption | (simp only [oneC_int, oneC_bool, oneC_str, oneC_ptr, oneC_sl, oneC_map]; done) | (simp only [List.length_cons, List.length_nil, List.length_set, List.length_map, List.length_replicate, List.length_append, List.length_take, List.length_drop, Int.toNat_natCast] <;> omega) | fail) only [Go.Rx.vi, Go.Rx.vb, Go.Rx.vstr, rxc, rxo, Nat.reduceLeDiff, List.getElem?_cons_zero, List.getElem?_cons_succ, List.length_cons, List.length_nil, List.set_cons_zero, List.set_cons_succ, ↓reduceIte, Bool.not_true, Bool.not_false, true_and, and_true, not_true_eq_false, not_false_eq_true, decide_true, decide_false, Nat.reduceEqDiff, Nat.reduceAdd, Nat.reduceMul, Nat.reducePow, Int.reduceToNat, Int.reducePow, Nat.zero_add, Nat.mul_one, Int.toNat_natCast, e1, e2, e5, e6, e7, e8]
    rfl
  · rintro m e hh ⟨i, pl, rfl, hi, e2, e5, e6, e7, e8, e13, e14, hb, hpl, cg, hj⟩
    simp (maxSteps := 2000000) (disch := first | omega | assumption | (simp only [oneC_int, oneC_bool, oneC_str, oneC_ptr, oneC_sl, oneC_map]; done) | (simp only [List.length_cons, List.length_nil, List.length_set, List.length_map, List.length_replicate, List.length_append, List.length_take, List.length_drop, Int.toNat_natCast] <;> omega) | fail) only [Go.Rx.vi, Go.Rx.vb, Go.Rx.vstr, rxc, rxo, Nat.reduceLeDiff, List.getElem?_cons_zero, List.getElem?_cons_succ, List.length_cons, List.length_nil, List.set_cons_zero, List.set_cons_succ, ↓reduceIte, Bool.not_true, Bool.not_false, true_and, and_true, not_true_eq_false, not_false_eq_true, decide_true, decide_false, Nat.reduceEqDiff, Nat.reduceAdd, Nat.reduceMul, Nat.reducePow, Int.reduceToNat, Int.reducePow, Nat.zero_add, Nat.mul_one, Int.toNat_natCast, B4_3, R4_26, e2, e5, e6, e7, e8, e13, e14]
    refine WCond_dec (fun hc => ?_) (fun hc => ?_)
    · have oc := oc.chg cg (by omega)
      have crr := oc.sl.r
      simp only [List.length_map, hcl] at crr
      have bhh : hh.at h.next = some (.cells (dfaC d.start d.cls vn vr) 34 true) := by rw [cg.at_ _ (by omega) (by omega), gps.at_ _ (by omega) (by omega)]; exact b4
      have hcb := hd.byte i (by omega)
      have hcm := k10 i (by omega)
      have hcr := pc.rng (d.cls.getD i 0).toNat (by omega)
      have htl := dfaC_len (s := ost) (vn := vw) (vr := vy) hpl
      simp (maxSteps := 2000000) (disch := first | omega | assumption | (simp only [oneC_int, oneC_bool, oneC_str, oneC_ptr, oneC_sl, oneC_map]; done) | (simp only [List.length_cons, List.length_nil, List.length_set, List.length_map, List.length_replicate, List.length_append, List.length_take, List.length_drop, Int.toNat_natCast] <;> omega) | fail) only [Go.Rx.vi, Go.Rx.vb, Go.Rx.vstr, rxc, rxo, Nat.reduceLeDiff, List.getElem?_cons_zero, List.getElem?_cons_succ, List.length_cons, List.length_nil, List.set_cons_zero, List.set_cons_succ, ↓reduceIte, Bool.not_true, Bool.not_false, true_and, and_true, not_true_eq_false, not_false_eq_true, decide_true, decide_false, Nat.reduceEqDiff, Nat.reduceAdd, Nat.reduceMul, Nat.reducePow, Int.reduceToNat, Int.reducePow, Nat.zero_add, Nat.mul_one, Int.toNat_natCast, R4_27, e2, e5, e6, e7, e8, e13, e14, bhh, dfaC_cls hd.cls, crr, ints_get, hb, htl, dfaC_setp hpl, R4_28]
      have cs : Chg hy.next hh (hh.set hy.next (some (.cells (dfaC ost (pl.set i (cl.getD (d.cls.getD i 0).toNat 0)) vw vy) 34 true))) := Chg.set
      refine ⟨_, by omega, i + 1, _, rfl, by omega, by simp, rfl, by simp [hpl], cg.trans cs, fun j hj2 => ?_⟩
      rw [getD_set (by omega)]
      by_cases e : i = j
      · subst e; rw [if_pos rfl]
      · rw [if_neg e]; exact hj j (by omega)
    · simp (maxSteps := 2000000) (disch := first | omega | assumption | (simp only [oneC_int, oneC_bool, oneC_str, oneC_ptr, oneC_sl, oneC_map]; done) | (simp only [List.length_cons, List.length_nil, List.length_set, List.length_map, List.length_replicate, List.length_append, List.length_take, List.length_drop, Int.toNat_natCast] <;> omega) | fail) only [Go.Rx.vi, Go.Rx.vb, Go.Rx.vstr, rxc, rxo, Nat.reduceLeDiff, List.getElem?_cons_zero, List.getElem?_cons_succ, List.length_cons, List.length_nil, List.set_cons_zero, List.set_cons_succ, ↓reduceIte, Bool.not_true, Bool.not_false, true_and, and_true, not_true_eq_false, not_false_eq_true, decide_true, decide_false, Nat.reduceEqDiff, Nat.reduceAdd, Nat.reduceMul, Nat.reducePow, Int.reduceToNat, Int.reducePow, Nat.zero_add, Nat.mul_one, Int.toNat_natCast, e2, e5, e6, e7, e8, e13]
      exact ⟨pl, hb, hpl, cg, fun j hj2 => hj j (by omega)⟩
  rintro e hh ⟨pl, e2, e5, e6, e7, e8, e13, bt, hpl, cg, hcls⟩
  have ow := ow.chg cg (by omega)
  have oy := oy.chg cg (by omega)
  have oo := oo.chg cg (by omega)
  have oc := oc.chg cg (by omega)
  have ns2 := cg.next
  have gpt : GrowP h4 hh := gps.chg cg (by omega)
  simp (maxSteps := 2000000) (disch := first | omega | assumption | (simp only [oneC_int, oneC_bool, oneC_str, oneC_ptr, oneC_sl, oneC_map]; done) | (simp only [List.length_cons, List.length_nil, List.length_set, List.length_map, List.length_replicate, List.length_append, List.length_take, List.length_drop, Int.toNat_natCast] <;> omega) | fail) only [Go.Rx.vi, Go.Rx.vb, Go.Rx.vstr, rxc, rxo, Nat.reduceLeDiff, List.getElem?_cons_zero, List.getElem?_cons_succ, List.length_cons, List.length_nil, List.set_cons_zero, List.set_cons_succ, ↓reduceIte, Bool.not_true, Bool.not_false, true_and, and_true, not_true_eq_false, not_false_eq_true, decide_true, decide_false, Nat.reduceEqDiff, Nat.reduceAdd, Nat.reduceMul, Nat.reducePow, Int.reduceToNat, Int.reducePow, Nat.zero_add, Nat.mul_one, Int.toNat_natCast, R4_29]
  have ool := oo.1
  have ocl := oc.1
  have bhl : hh.at h.next = some (.cells (dfaC d.start d.cls vn vr) 34 true) := by rw [gpt.at_ _ (by omega) (by omega)]; exact b4
  obtain ⟨nC, enC⟩ : ∃ nC, hh.next = nC := ⟨_, rfl⟩
  refine WC_bloop 22 (fun m e h' => ∃ (i : Nat) (ws : List Value) (N : List (List Int)) (Rl : List Int), m = d.next.length - i ∧ i ≤ d.next.length ∧ e.g 2 = pB h.next ∧ e.g 5 = .int .i64 d.next.length ∧ e.g 6 = .int .i64 (d.next.getD 0 []).length ∧ e.g 7 = vo ∧ e.g 8 = vc ∧ e.g 13 = pB hy.next ∧ e.g 15 = .int .i64 i ∧
      h'.at hy.next = some (.cells (dfaC ost pl vw vy) 34 true) ∧ OwnV h' 3 vo (ol.map (.int .i64)) ∧ OwnV h' 3 vc (cl.map (.int .i64)) ∧ OwnV h' 32 vw ws ∧ OwnV h' 3 vy (Rl.map (.int .i64)) ∧ ws.length = d.next.length ∧ N.length = d.next.length ∧ Rl.length = d.next.length ∧
      (∀ j : Nat, j < N.length → SlV h' (ws.getD j undef) ((N.getD j []).map (.int .i64)) ∧ (bno (ws.getD j undef) = 0 ∨ nC ≤ bno (ws.getD j undef)) ∧ (N.getD j []).length ≤ 256) ∧ GrowP h4 h' ∧ nC ≤ h'.next ∧
      (∀ s, s < i → RowT ol cl (d.next.getD s []) (N.getD (piO ol s) []) cl.length) ∧ ∀ s, s < i → Rl.getD (piO ol s) 0 = d.rule.getD s 0)
    (fun e h' => ∃ (ws : List Value) (N : List (List Int)) (Rl : List Int), e.g 2 = pB h.next ∧ e.g 13 = pB hy.next ∧
      h'.at hy.next = some (.cells (dfaC ost pl vw vy) 34 true) ∧ OwnV h' 32 vw ws ∧ OwnV h' 3 vy (Rl.map (.int .i64)) ∧ ws.length = d.next.length ∧ N.length = d.next.length ∧ Rl.length = d.next.length ∧
      (∀ j : Nat, j < N.length → SlV h' (ws.getD j undef) ((N.getD j []).map (.int .i64)) ∧ (bno (ws.getD j undef) = 0 ∨ nC ≤ bno (ws.getD j undef)) ∧ (N.getD j []).length ≤ 256) ∧ GrowP h4 h' ∧ nC ≤ h'.next ∧
      (∀ s, s < d.next.length → RowT ol cl (d.next.getD s []) (N.getD (piO ol s) []) cl.length) ∧ ∀ s, s < d.next.length → Rl.getD (piO ol s) 0 = d.rule.getD s 0) ?_ ?_ ?_
  · refine ⟨_, 0, _, List.replicate d.next.length [], _, rfl, by omega, ?_, ?_, ?_, ?_, ?_, ?_, ?_, bt, oo, oc, ow, oy, by simp, by simp, by simp, fun j hj => ?_, gpt, by omega, fun s hs => by omega, fun s hs => by omega⟩
    · simp (maxSteps := 2000000) (disch := first | omega | assumption | (simp only [oneC_int, oneC_bool, oneC_str, oneC_ptr, oneC_sl, oneC_map]; done) | (simp only [List.length_cons, List.length_nil, List.length_set, List.length_map, List.length_replicate, List.length_append, List.length_take, List.length_drop, Int.toNat_natCast] <;> omega) | fail) only [Go.Rx.vi, Go.Rx.vb, Go.Rx.vstr, rxc, rxo, Nat.reduceLeDiff, List.getElem?_cons_zero, List.getElem?_cons_succ, List.length_cons, List.length_nil, List.set_cons_zero, List.set_cons_succ, ↓reduceIte, Bool.not_true, Bool.not_false, true_and, and_true, not_true_eq_false, not_false_eq_true, decide_true, decide_false, Nat.reduceEqDiff, Nat.reduceAdd, Nat.reduceMul, Nat.reducePow, Int.reduceToNat, Int.reducePow, Nat.zero_add, Nat.mul_one, Int.toNat_natCast, e2, e5, e6, e7, e8, e13]
    · simp (maxSteps := 2000000) (disch := first | omega | assumption | (simp only [oneC_int, oneC_bool, oneC_str, oneC_ptr, oneC_sl, oneC_map]; done) | (simp only [List.length_cons, List.length_nil, List.length_set, List.length_map, List.length_replicate, List.length_append, List.length_take, List.length_drop, Int.toNat_natCast] <;> omega) | fail) only [Go.Rx.vi, Go.Rx.vb, Go.Rx.vstr, rxc, rxo, Nat.reduceLeDiff, List.getElem?_cons_zero, List.getElem?_cons_succ, List.length_cons, List.length_nil, List.set_cons_zero, List.set_cons_succ, ↓reduceIte, Bool.not_true, Bool.not_false, true_and, and_true, not_true_eq_false, not_false_eq_true, decide_true, decide_false, Nat.reduceEqDiff, Nat.reduceAdd, Nat.reduceMul, Nat.reducePow, Int.reduceToNat, Int.reducePow, Nat.zero_add, Nat.mul_one, Int.toNat_natCast, e2, e5, e6, e7, e8, e13]
    · simp (maxSteps := 2000000) (disch := first | omega | assumption | (simp only [oneC_int, oneC_bool, oneC_str, oneC_ptr, oneC_sl, oneC_map]; done) | (simp only [List.length_cons, List.length_nil, List.length_set, List.length_map, List.length_replicate, List.length_append, List.length_take, List.length_drop, Int.toNat_natCast] <;> omega) | fail) only [Go.Rx.vi, Go.Rx.vb, Go.Rx.vstr, rxc, rxo, Nat.reduceLeDiff, List.getElem?_cons_zero, List.getElem?_cons_succ, List.length_cons, List.length_nil, List.set_cons_zero, List.set_cons_succ, ↓reduceIte, Bool.not_true, Bool.not_false, true_and, and_true, not_true_eq_false, not_false_eq_true, decide_true, decide_false, Nat.reduceEqDiff, Nat.reduceAdd, Nat.reduceMul, Nat.reducePow, Int.reduceToNat, Int.reducePow, Nat.zero_add, Nat.mul_one, Int.toNat_natCast, e2, e5, e6, e7, e8, e13]
    · simp (maxSteps := 2000000) (disch := first | omega | assumption | (simp only [oneC_int, oneC_bool, oneC_str, oneC_ptr, oneC_sl, oneC_map]; done) | (simp only [List.length_cons, List.length_nil, List.length_set, List.length_map, List.length_replicate, List.length_append, List.length_take, List.length_drop, Int.toNat_natCast] <;> omega) | fail) only [Go.Rx.vi, Go.Rx.vb, Go.Rx.vstr, rxc, rxo, Nat.reduceLeDiff, List.getElem?_cons_zero, List.getElem?_cons_succ, List.length_cons, List.length_nil, List.set_cons_zero, List.set_cons_succ, ↓reduceIte, Bool.not_true, Bool.not_false, true_and, and_true, not_true_eq_false, not_false_eq_true, decide_true, decide_false, Nat.reduceEqDiff, Nat.reduceAdd, Nat.reduceMul, Nat.reducePow, Int.reduceToNat, Int.reducePow, Nat.zero_add, Nat.mul_one, Int.toNat_natCast, e2, e5, e6, e7, e8, e13]
    · simp (maxSteps := 2000000) (disch := first | omega | assumption | (simp only [oneC_int, oneC_bool, oneC_str, oneC_ptr, oneC_sl, oneC_map]; done) | (simp only [List.length_cons, List.length_nil, List.length_set, List.length_map, List.length_replicate, List.length_append, List.length_take, List.length_drop, Int.toNat_natCast] <;> omega) | fail) only [Go.Rx.vi, Go.Rx.vb, Go.Rx.vstr, rxc, rxo, Nat.reduceLeDiff, List.getElem?_cons_zero, List.getElem?_cons_succ, List.length_cons, List.length_nil, List.set_cons_zero, List.set_cons_succ, ↓reduceIte, Bool.not_true, Bool.not_false, true_and, and_true, not_true_eq_false, not_false_eq_true, decide_true, decide_false, Nat.reduceEqDiff, Nat.reduceAdd, Nat.reduceMul, Nat.reducePow, Int.reduceToNat, Int.reducePow, Nat.zero_add, Nat.mul_one, Int.toNat_natCast, e2, e5, e6, e7, e8, e13]
    · simp (maxSteps := 2000000) (disch := first | omega | assumption | (simp only [oneC_int, oneC_bool, oneC_str, oneC_ptr, oneC_sl, oneC_map]; done) | (simp only [List.length_cons, List.length_nil, List.length_set, List.length_map, List.length_replicate, List.length_append, List.length_take, List.length_drop, Int.toNat_natCast] <;> omega) | fail) only [Go.Rx.vi, Go.Rx.vb, Go.Rx.vstr, rxc, rxo, Nat.reduceLeDiff, List.getElem?_cons_zero, List.getElem?_cons_succ, List.length_cons, List.length_nil, List.set_cons_zero, List.set_cons_succ, ↓reduceIte, Bool.not_true, Bool.not_false, true_and, and_true, not_true_eq_false, not_false_eq_true, decide_true, decide_false, Nat.reduceEqDiff, Nat.reduceAdd, Nat.reduceMul, Nat.reducePow, Int.reduceToNat, Int.reducePow, Nat.zero_add, Nat.mul_one, Int.toNat_natCast, e2, e5, e6, e7, e8, e13]
    · simp (maxSteps := 2000000) (disch := first | omega | assumption | (simp only [oneC_int, oneC_bool, oneC_str, oneC_ptr, oneC_sl, oneC_map]; done) | (simp only [List.length_cons, List.length_nil, List.length_set, List.length_map, List.length_replicate, List.length_append, List.length_take, List.length_drop, Int.toNat_natCast] <;> omega) | fail) only [Go.Rx.vi, Go.Rx.vb, Go.Rx.vstr, rxc, rxo, Nat.reduceLeDiff, List.getElem?_cons_zero, List.getElem?_cons_succ, List.length_cons, List.length_nil, List.set_cons_zero, List.set_cons_succ, ↓reduceIte, Bool.not_true, Bool.not_false, true_and, and_true, not_true_eq_false, not_false_eq_true, decide_true, decide_false, Nat.reduceEqDiff, Nat.reduceAdd, Nat.reduceMul, Nat.reducePow, Int.reduceToNat, Int.reducePow, Nat.zero_add, Nat.mul_one, Int.toNat_natCast, e2, e5, e6, e7, e8, e13]
      rfl
    · rw [List.length_replicate] at hj
      rw [getD_rep hj, getD_rep hj]
      exact ⟨⟨by show 0 < _; omega, .inl ⟨rfl, rfl⟩⟩, .inl rfl, by simp⟩
  · rintro m e hh ⟨i, ws, N, Rl, rfl, hi, e2, e5, e6, e7, e8, e13, e15, bt, oo, oc, ow, oy, hws, hN, hRl, hrow, gp, hnc, hr1, hr2⟩
    simp (maxSteps := 2000000) (disch := first | omega | assumption | (simp only [oneC_int, oneC_bool, oneC_str, oneC_ptr, oneC_sl, oneC_map]; done) | (simp only [List.length_cons, List.length_nil, List.length_set, List.length_map, List.length_replicate, List.length_append, List.length_take, List.length_drop, Int.toNat_natCast] <;> omega) | fail) only [Go.Rx.vi, Go.Rx.vb, Go.Rx.vstr, rxc, rxo, Nat.reduceLeDiff, List.getElem?_cons_zero, List.getElem?_cons_succ, List.length_cons, List.length_nil, List.set_cons_zero, List.set_cons_succ, ↓reduceIte, Bool.not_true, Bool.not_false, true_and, and_true, not_true_eq_false, not_false_eq_true, decide_true, decide_false, Nat.reduceEqDiff, Nat.reduceAdd, Nat.reduceMul, Nat.reducePow, Int.reduceToNat, Int.reducePow, Nat.zero_add, Nat.mul_one, Int.toNat_natCast, B4_4, R4_30, e2, e5, e6, e7, e8, e13, e15]
    refine WCond_dec (fun hc => ?_) (fun hc => ?_)
    · obtain ⟨q1, q2, q3⟩ := k8 i (by omega)
      have hoi := po.rng i (by omega)
      simp (maxSteps := 2000000) (disch := first | omega | assumption | (simp only [oneC_int, oneC_bool, oneC_str, oneC_ptr, oneC_sl, oneC_map]; done) | (simp only [List.length_cons, List.length_nil, List.length_set, List.length_map, List.length_replicate, List.length_append, List.length_take, List.length_drop, Int.toNat_natCast] <;> omega) | fail) only [Go.Rx.vi, Go.Rx.vb, Go.Rx.vstr, rxc, rxo, Nat.reduceLeDiff, List.getElem?_cons_zero, List.getElem?_cons_succ, List.length_cons, List.length_nil, List.set_cons_zero, List.set_cons_succ, ↓reduceIte, Bool.not_true, Bool.not_false, true_and, and_true, not_true_eq_false, not_false_eq_true, decide_true, decide_false, Nat.reduceEqDiff, Nat.reduceAdd, Nat.reduceMul, Nat.reducePow, Int.reduceToNat, Int.reducePow, Nat.zero_add, Nat.mul_one, Int.toNat_natCast, R4_31, e2, e5, e6, e7, e8, e13, e15]
      refine WI_makec (by omega) (by omega) (by omega) (by omega) (by omega) (by decide) fun u hu ou gu fu => ?_
      simp only [Int.toNat_natCast, ints_rep] at ou
      have nu := gu.next
      simp (maxSteps := 2000000) (disch := first | omega | assumption | (simp only [oneC_int, oneC_bool, oneC_str, oneC_ptr, oneC_sl, oneC_map]; done) | (simp only [List.length_cons, List.length_nil, List.length_set, List.length_map, List.length_replicate, List.length_append, List.length_take, List.length_drop, Int.toNat_natCast] <;> omega) | fail) only [Go.Rx.vi, Go.Rx.vb, Go.Rx.vstr, rxc, rxo, Nat.reduceLeDiff, List.getElem?_cons_zero, List.getElem?_cons_succ, List.length_cons, List.length_nil, List.set_cons_zero, List.set_cons_succ, ↓reduceIte, Bool.not_true, Bool.not_false, true_and, and_true, not_true_eq_false, not_false_eq_true, decide_true, decide_false, Nat.reduceEqDiff, Nat.reduceAdd, Nat.reduceMul, Nat.reducePow, Int.reduceToNat, Int.reducePow, Nat.zero_add, Nat.mul_one, Int.toNat_natCast, R4_32, e2, e5, e6, e7, e8, e13, e15]
      refine WC_bloop 22 (fun m e h' => ∃ (c : Nat) (r : List Int), m = (d.next.getD 0 []).length - c ∧ c ≤ (d.next.getD 0 []).length ∧ e.g 2 = pB h.next ∧ e.g 5 = .int .i64 d.next.length ∧ e.g 6 = .int .i64 (d.next.getD 0 []).length ∧ e.g 7 = vo ∧ e.g 8 = vc ∧ e.g 13 = pB hy.next ∧ e.g 15 = .int .i64 i ∧ e.g 16 = u ∧ e.g 17 = .int .i64 c ∧
          OwnV h' 3 u (r.map (.int .i64)) ∧ GrowP hh h' ∧ RowT ol cl (d.next.getD i []) r c)
        (fun e h' => ∃ (r : List Int), e.g 2 = pB h.next ∧ e.g 5 = .int .i64 d.next.length ∧ e.g 6 = .int .i64 (d.next.getD 0 []).length ∧ e.g 7 = vo ∧ e.g 8 = vc ∧ e.g 13 = pB hy.next ∧ e.g 15 = .int .i64 i ∧ e.g 16 = u ∧
          OwnV h' 3 u (r.map (.int .i64)) ∧ GrowP hh h' ∧ RowT ol cl (d.next.getD i []) r cl.length) ?_ ?_ ?_
      · refine ⟨_, 0, _, rfl, by omega, ?_, ?_, ?_, ?_, ?_, ?_, ?_, ?_, ?_, ou, gu, by simp [hcl], fun j hj => by omega⟩
        all_goals simp (maxSteps := 2000000) (disch := first | omega | assumption | (simp only [oneC_int, oneC_bool, oneC_str, oneC_ptr, oneC_sl, oneC_map]; done) | (simp only [List.length_cons, List.length_nil, List.length_set, List.length_map, List.length_replicate, List.length_append, List.length_take, List.length_drop, Int.toNat_natCast] <;> omega) | fail) only [Go.Rx.vi, Go.Rx.vb, Go.Rx.vstr, rxc, rxo, Nat.reduceLeDiff, List.getElem?_cons_zero, List.getElem?_cons_succ, List.length_cons, List.length_nil, List.set_cons_zero, List.set_cons_succ, ↓reduceIte, Bool.not_true, Bool.not_false, true_and, and_true, not_true_eq_false, not_false_eq_true, decide_true, decide_false, Nat.reduceEqDiff, Nat.reduceAdd, Nat.reduceMul, Nat.reducePow, Int.reduceToNat, Int.reducePow, Nat.zero_add, Nat.mul_one, Int.toNat_natCast, e2, e5, e6, e7, e8, e13, e15]
        rfl
      · rintro m e h' ⟨c, r, rfl, hcc, e2, e5, e6, e7, e8, e13, e15, e16, e17, ou, gh, hrl, hrr⟩
        simp (maxSteps := 2000000) (disch := first | omega | assumption | (simp only [oneC_int, oneC_bool, oneC_str, oneC_ptr, oneC_sl, oneC_map]; done) | (simp only [List.length_cons, List.length_nil, List.length_set, List.length_map, List.length_replicate, List.length_append, List.length_take, List.length_drop, Int.toNat_natCast] <;> omega) | fail) only [Go.Rx.vi, Go.Rx.vb, Go.Rx.vstr, rxc, rxo, Nat.reduceLeDiff, List.getElem?_cons_zero, List.getElem?_cons_succ, List.length_cons, List.length_nil, List.set_cons_zero, List.set_cons_succ, ↓reduceIte, Bool.not_true, Bool.not_false, true_and, and_true, not_true_eq_false, not_false_eq_true, decide_true, decide_false, Nat.reduceEqDiff, Nat.reduceAdd, Nat.reduceMul, Nat.reducePow, Int.reduceToNat, Int.reducePow, Nat.zero_add, Nat.mul_one, Int.toNat_natCast, B4_5, R4_33, e2, e5, e6, e7, e8, e13, e15, e16, e17]
        refine WCond_dec (fun hc2 => ?_) (fun hc2 => ?_)
        · have gph := gp.trans gh
          have nh := gh.next
          have bhh : h'.at h.next = some (.cells (dfaC d.start d.cls vn vr) 34 true) := by rw [gph.at_ _ (by omega) (by omega)]; exact b4
          have dh := d4.gp gph
          have nr := dh.next.sl.r
          have rr := (dh.next.row i (by omega)).r
          have crr := (oc.gp gh).sl.r
          have orr := (oo.gp gh).sl.r
          have ur := ou.sl.r
          rw [hcl] at hrl
          simp only [List.length_map, hl, hcl, hol, hrl, q1] at nr rr crr orr ur
          have hci := pc.rng c (by omega)
          have hxm := le_maxI (getD_mem (l := d.next.getD i []) (i := c) (by omega))
          simp (maxSteps := 2000000) (disch := first | omega | assumption | (simp only [oneC_int, oneC_bool, oneC_str, oneC_ptr, oneC_sl, oneC_map]; done) | (simp only [List.length_cons, List.length_nil, List.length_set, List.length_map, List.length_replicate, List.length_append, List.length_take, List.length_drop, Int.toNat_natCast] <;> omega) | fail) only [Go.Rx.vi, Go.Rx.vb, Go.Rx.vstr, rxc, rxo, Nat.reduceLeDiff, List.getElem?_cons_zero, List.getElem?_cons_succ, List.length_cons, List.length_nil, List.set_cons_zero, List.set_cons_succ, ↓reduceIte, Bool.not_true, Bool.not_false, true_and, and_true, not_true_eq_false, not_false_eq_true, decide_true, decide_false, Nat.reduceEqDiff, Nat.reduceAdd, Nat.reduceMul, Nat.reducePow, Int.reduceToNat, Int.reducePow, Nat.zero_add, Nat.mul_one, Int.toNat_natCast]
          refine WC_regd0 hm ?_
          simp (maxSteps := 2000000) (disch := first | omega | assumption | (simp only [oneC_int, oneC_bool, oneC_str, oneC_ptr, oneC_sl, oneC_map]; done) | (simp only [List.length_cons, List.length_nil, List.length_set, List.length_map, List.length_replicate, List.length_append, List.length_take, List.length_drop, Int.toNat_natCast] <;> omega) | fail) only [Go.Rx.vi, Go.Rx.vb, Go.Rx.vstr, rxc, rxo, Nat.reduceLeDiff, List.getElem?_cons_zero, List.getElem?_cons_succ, List.length_cons, List.length_nil, List.set_cons_zero, List.set_cons_succ, ↓reduceIte, Bool.not_true, Bool.not_false, true_and, and_true, not_true_eq_false, not_false_eq_true, decide_true, decide_false, Nat.reduceEqDiff, Nat.reduceAdd, Nat.reduceMul, Nat.reducePow, Int.reduceToNat, Int.reducePow, Nat.zero_add, Nat.mul_one, Int.toNat_natCast, R4_34, e2, e5, e6, e7, e8, e13, e15, e16, e17, crr, ints_get, bhh, dfaC_257 hd.cls, nr, vals_get (l := us), rr, ur]
          refine WI_storec ou (by rw [List.length_map]; omega) rfl fun hx ox cx => ?_
          rw [ints_set] at ox
          have nhx := cx.next
          have ghx := gh.chg cx (by omega)
          have gphx := gp.trans ghx
          have bhx : hx.at h.next = some (.cells (dfaC d.start d.cls vn vr) 34 true) := by rw [gphx.at_ _ (by omega) (by omega)]; exact b4
          have dhx := d4.gp gphx
          have nr := dhx.next.sl.r
          have rr := (dhx.next.row i (by omega)).r
          have crr := (oc.gp ghx).sl.r
          have orr := (oo.gp ghx).sl.r
          have ur := ox.sl.r
          simp only [List.length_map, List.length_set, hl, hcl, hol, hrl, q1] at nr rr crr orr ur
          have step : ∀ (r' : List Int), r'.length = (d.next.getD 0 []).length → (∀ j : Nat, r'.getD j 0 = if (cl.getD c 0).toNat = j then pz (piO ol) ((d.next.getD i []).getD c 0) else r.getD j 0) → RowT ol cl (d.next.getD i []) r' (c + 1) := fun r' h1 h2 => ⟨by rw [h1, hcl], fun j hj => by
            rw [h2]
            by_cases e : j = c
            · subst e; rw [if_pos rfl]
            · have hcj := pc.rng j (by omega)
              rw [if_neg (fun q => e (pc.inj j c (by omega) (by omega) (by omega)))]
              exact hrr j (by omega)⟩
          simp (maxSteps := 2000000) (disch := first | omega | assumption | (simp only [oneC_int, oneC_bool, oneC_str, oneC_ptr, oneC_sl, oneC_map]; done) | (simp only [List.length_cons, List.length_nil, List.length_set, List.length_map, List.length_replicate, List.length_append, List.length_take, List.length_drop, Int.toNat_natCast] <;> omega) | fail) only [Go.Rx.vi, Go.Rx.vb, Go.Rx.vstr, rxc, rxo, Nat.reduceLeDiff, List.getElem?_cons_zero, List.getElem?_cons_succ, List.length_cons, List.length_nil, List.set_cons_zero, List.set_cons_succ, ↓reduceIte, Bool.not_true, Bool.not_false, true_and, and_true, not_true_eq_false, not_false_eq_true, decide_true, decide_false, Nat.reduceEqDiff, Nat.reduceAdd, Nat.reduceMul, Nat.reducePow, Int.reduceToNat, Int.reducePow, Nat.zero_add, Nat.mul_one, Int.toNat_natCast, R4_35, e2, e5, e6, e7, e8, e13, e15, e16, e17, bhx, dfaC_257 hd.cls, nr, vals_get (l := us), rr, ints_get]
          refine WCond_dec (fun h0 => ?_) (fun h0 => ?_)
          · have hoc := po.rng ((d.next.getD i []).getD c 0).toNat (by omega)
            simp (maxSteps := 2000000) (disch := first | omega | assumption | (simp only [oneC_int, oneC_bool, oneC_str, oneC_ptr, oneC_sl, oneC_map]; done) | (simp only [List.length_cons, List.length_nil, List.length_set, List.length_map, List.length_replicate, List.length_append, List.length_take, List.length_drop, Int.toNat_natCast] <;> omega) | fail) only [Go.Rx.vi, Go.Rx.vb, Go.Rx.vstr, rxc, rxo, Nat.reduceLeDiff, List.getElem?_cons_zero, List.getElem?_cons_succ, List.length_cons, List.length_nil, List.set_cons_zero, List.set_cons_succ, ↓reduceIte, Bool.not_true, Bool.not_false, true_and, and_true, not_true_eq_false, not_false_eq_true, decide_true, decide_false, Nat.reduceEqDiff, Nat.reduceAdd, Nat.reduceMul, Nat.reducePow, Int.reduceToNat, Int.reducePow, Nat.zero_add, Nat.mul_one, Int.toNat_natCast]
            refine WC_regd0 hm ?_
            simp (maxSteps := 2000000) (disch := first | omega | assumption | (simp only [oneC_int, oneC_bool, oneC_str, oneC_ptr, oneC_sl, oneC_map]; done) | (simp only [List.length_cons, List.length_nil, List.length_set, List.length_map, List.length_replicate, List.length_append, List.length_take, List.length_drop, Int.toNat_natCast] <;> omega) | fail) only [Go.Rx.vi, Go.Rx.vb, Go.Rx.vstr, rxc, rxo, Nat.reduceLeDiff, List.getElem?_cons_zero, List.getElem?_cons_succ, List.length_cons, List.length_nil, List.set_cons_zero, List.set_cons_succ, ↓reduceIte, Bool.not_true, Bool.not_false, true_and, and_true, not_true_eq_false, not_false_eq_true, decide_true, decide_false, Nat.reduceEqDiff, Nat.reduceAdd, Nat.reduceMul, Nat.reducePow, Int.reduceToNat, Int.reducePow, Nat.zero_add, Nat.mul_one, Int.toNat_natCast, R4_36, e2, e5, e6, e7, e8, e13, e15, e16, e17, crr, ints_get, bhx, dfaC_257 hd.cls, nr, vals_get (l := us), rr, orr, ur]
            refine WI_storec ox (by rw [List.length_map, List.length_set]; omega) rfl fun hz oz cz => ?_
            rw [ints_set] at oz
            simp (maxSteps := 2000000) (disch := first | omega | assumption | (simp only [oneC_int, oneC_bool, oneC_str, oneC_ptr, oneC_sl, oneC_map]; done) | (simp only [List.length_cons, List.length_nil, List.length_set, List.length_map, List.length_replicate, List.length_append, List.length_take, List.length_drop, Int.toNat_natCast] <;> omega) | fail) only [Go.Rx.vi, Go.Rx.vb, Go.Rx.vstr, rxc, rxo, Nat.reduceLeDiff, List.getElem?_cons_zero, List.getElem?_cons_succ, List.length_cons, List.length_nil, List.set_cons_zero, List.set_cons_succ, ↓reduceIte, Bool.not_true, Bool.not_false, true_and, and_true, not_true_eq_false, not_false_eq_true, decide_true, decide_false, Nat.reduceEqDiff, Nat.reduceAdd, Nat.reduceMul, Nat.reducePow, Int.reduceToNat, Int.reducePow, Nat.zero_add, Nat.mul_one, Int.toNat_natCast, R4_37, e2, e5, e6, e7, e8, e13, e15, e16, e17]
            refine ⟨_, by omega, c + 1, _, rfl, by omega, by simp, oz, ghx.chg cz (by omega), step _ (by simp [hrl]) fun j => ?_⟩
            rw [getD_set (by rw [List.length_set]; omega), getD_set (by omega), pz_pos (by omega)]
            by_cases e : (cl.getD c 0).toNat = j
            · rw [if_pos e, if_pos e]; unfold piO; omega
            · rw [if_neg e, if_neg e, if_neg e]
          · simp (maxSteps := 2000000) (disch := first | omega | assumption | (simp only [oneC_int, oneC_bool, oneC_str, oneC_ptr, oneC_sl, oneC_map]; done) | (simp only [List.length_cons, List.length_nil, List.length_set, List.length_map, List.length_replicate, List.length_append, List.length_take, List.length_drop, Int.toNat_natCast] <;> omega) | fail) only [Go.Rx.vi, Go.Rx.vb, Go.Rx.vstr, rxc, rxo, Nat.reduceLeDiff, List.getElem?_cons_zero, List.getElem?_cons_succ, List.length_cons, List.length_nil, List.set_cons_zero, List.set_cons_succ, ↓reduceIte, Bool.not_true, Bool.not_false, true_and, and_true, not_true_eq_false, not_false_eq_true, decide_true, decide_false, Nat.reduceEqDiff, Nat.reduceAdd, Nat.reduceMul, Nat.reducePow, Int.reduceToNat, Int.reducePow, Nat.zero_add, Nat.mul_one, Int.toNat_natCast, R4_37, e2, e5, e6, e7, e8, e13, e15, e16, e17]
            refine ⟨_, by omega, c + 1, _, rfl, by omega, by simp, ox, ghx, step _ (by simp [hrl]) fun j => ?_⟩
            rw [getD_set (by omega), pz_neg (by omega)]
        · simp (maxSteps := 2000000) (disch := first | omega | assumption | (simp only [oneC_int, oneC_bool, oneC_str, oneC_ptr, oneC_sl, oneC_map]; done) | (simp only [List.length_cons, List.length_nil, List.length_set, List.length_map, List.length_replicate, List.length_append, List.length_take, List.length_drop, Int.toNat_natCast] <;> omega) | fail) only [Go.Rx.vi, Go.Rx.vb, Go.Rx.vstr, rxc, rxo, Nat.reduceLeDiff, List.getElem?_cons_zero, List.getElem?_cons_succ, List.length_cons, List.length_nil, List.set_cons_zero, List.set_cons_succ, ↓reduceIte, Bool.not_true, Bool.not_false, true_and, and_true, not_true_eq_false, not_false_eq_true, decide_true, decide_false, Nat.reduceEqDiff, Nat.reduceAdd, Nat.reduceMul, Nat.reducePow, Int.reduceToNat, Int.reducePow, Nat.zero_add, Nat.mul_one, Int.toNat_natCast, e2, e5, e6, e7, e8, e13, e15, e16]
          exact ⟨r, ou, gh, hrl, fun j hj => hrr j (by omega)⟩
      · rintro e h' ⟨r, e2, e5, e6, e7, e8, e13, e15, e16, ou, gh, hrt⟩
        have nh := gh.next
        have gph := gp.trans gh
        have bth : h'.at hy.next = some (.cells (dfaC ost pl vw vy) 34 true) := by rw [gh.at_ _ (by omega) (by omega)]; exact bt
        have ow' := ow.gp gh
        have oy' := oy.gp gh
        have oo' := oo.gp gh
        have oc' := oc.gp gh
        have orr := oo'.sl.r
        have wr := ow'.sl.r
        have oul := ou.1
        simp only [List.length_map, hol, hws] at orr wr
        simp (maxSteps := 2000000) (disch := first | omega | assumption | (simp only [oneC_int, oneC_bool, oneC_str, oneC_ptr, oneC_sl, oneC_map]; done) | (simp only [List.length_cons, List.length_nil, List.length_set, List.length_map, List.length_replicate, List.length_append, List.length_take, List.length_drop, Int.toNat_natCast] <;> omega) | fail) only [Go.Rx.vi, Go.Rx.vb, Go.Rx.vstr, rxc, rxo, Nat.reduceLeDiff, List.getElem?_cons_zero, List.getElem?_cons_succ, List.length_cons, List.length_nil, List.set_cons_zero, List.set_cons_succ, ↓reduceIte, Bool.not_true, Bool.not_false, true_and, and_true, not_true_eq_false, not_false_eq_true, decide_true, decide_false, Nat.reduceEqDiff, Nat.reduceAdd, Nat.reduceMul, Nat.reducePow, Int.reduceToNat, Int.reducePow, Nat.zero_add, Nat.mul_one, Int.toNat_natCast]
        refine WC_regd0 hm ?_
        simp (maxSteps := 2000000) (disch := first | omega | assumption | (simp only [oneC_int, oneC_bool, oneC_str, oneC_ptr, oneC_sl, oneC_map]; done) | (simp only [List.length_cons, List.length_nil, List.length_set, List.length_map, List.length_replicate, List.length_append, List.length_take, List.length_drop, Int.toNat_natCast] <;> omega) | fail) only [Go.Rx.vi, Go.Rx.vb, Go.Rx.vstr, rxc, rxo, Nat.reduceLeDiff, List.getElem?_cons_zero, List.getElem?_cons_succ, List.length_cons, List.length_nil, List.set_cons_zero, List.set_cons_succ, ↓reduceIte, Bool.not_true, Bool.not_false, true_and, and_true, not_true_eq_false, not_false_eq_true, decide_true, decide_false, Nat.reduceEqDiff, Nat.reduceAdd, Nat.reduceMul, Nat.reducePow, Int.reduceToNat, Int.reducePow, Nat.zero_add, Nat.mul_one, Int.toNat_natCast, R4_38, e2, e5, e6, e7, e8, e13, e15, e16, bth, dfaC_257 hpl, orr, ints_get, wr]
        refine WI_storec ow' (by omega) ou.sl.isSl fun hx ox cx => ?_
        have nx := cx.next
        have gphx := gph.chg cx (by omega)
        have bhx : hx.at h.next = some (.cells (dfaC d.start d.cls vn vr) 34 true) := by rw [gphx.at_ _ (by omega) (by omega)]; exact b4
        have btx : hx.at hy.next = some (.cells (dfaC ost pl vw vy) 34 true) := by rw [cx.at_ _ (by omega) (by omega)]; exact bth
        have oox := oo'.chg cx (by omega)
        have ocx := oc'.chg cx (by omega)
        have oyx := oy'.chg cx (by omega)
        have oux := ou.chg cx (by omega)
        have orr := oox.sl.r
        have yrr := oyx.sl.r
        have rrr := (d4.gp gphx).rule.r
        simp only [List.length_map, hol, hRl, k3] at orr yrr rrr
        simp (maxSteps := 2000000) (disch := first | omega | assumption | (simp only [oneC_int, oneC_bool, oneC_str, oneC_ptr, oneC_sl, oneC_map]; done) | (simp only [List.length_cons, List.length_nil, List.length_set, List.length_map, List.length_replicate, List.length_append, List.length_take, List.length_drop, Int.toNat_natCast] <;> omega) | fail) only [Go.Rx.vi, Go.Rx.vb, Go.Rx.vstr, rxc, rxo, Nat.reduceLeDiff, List.getElem?_cons_zero, List.getElem?_cons_succ, List.length_cons, List.length_nil, List.set_cons_zero, List.set_cons_succ, ↓reduceIte, Bool.not_true, Bool.not_false, true_and, and_true, not_true_eq_false, not_false_eq_true, decide_true, decide_false, Nat.reduceEqDiff, Nat.reduceAdd, Nat.reduceMul, Nat.reducePow, Int.reduceToNat, Int.reducePow, Nat.zero_add, Nat.mul_one, Int.toNat_natCast, e2, e5, e6, e7, e8, e13, e15, e16]
        refine WC_regd0 hm ?_
        simp (maxSteps := 2000000) (disch := first | omega | assumption | (simp only [oneC_int, oneC_bool, oneC_str, oneC_ptr, oneC_sl, oneC_map]; done) | (simp only [List.length_cons, List.length_nil, List.length_set, List.length_map, List.length_replicate, List.length_append, List.length_take, List.length_drop, Int.toNat_natCast] <;> omega) | fail) only [Go.Rx.vi, Go.Rx.vb, Go.Rx.vstr, rxc, rxo, Nat.reduceLeDiff, List.getElem?_cons_zero, List.getElem?_cons_succ, List.length_cons, List.length_nil, List.set_cons_zero, List.set_cons_succ, ↓reduceIte, Bool.not_true, Bool.not_false, true_and, and_true, not_true_eq_false, not_false_eq_true, decide_true, decide_false, Nat.reduceEqDiff, Nat.reduceAdd, Nat.reduceMul, Nat.reducePow, Int.reduceToNat, Int.reducePow, Nat.zero_add, Nat.mul_one, Int.toNat_natCast, R4_39, e2, e5, e6, e7, e8, e13, e15, e16, bhx, btx, dfaC_258 hpl, dfaC_258 hd.cls, orr, ints_get, yrr, rrr]
        refine WI_storec oyx (by rw [List.length_map]; omega) rfl fun hz oz cz => ?_
        rw [ints_set] at oz
        have nz := cz.next
        simp (maxSteps := 2000000) (disch := first | omega | assumption | (simp only [oneC_int, oneC_bool, oneC_str, oneC_ptr, oneC_sl, oneC_map]; done) | (simp only [List.length_cons, List.length_nil, List.length_set, List.length_map, List.length_replicate, List.length_append, List.length_take, List.length_drop, Int.toNat_natCast] <;> omega) | fail) only [Go.Rx.vi, Go.Rx.vb, Go.Rx.vstr, rxc, rxo, Nat.reduceLeDiff, List.getElem?_cons_zero, List.getElem?_cons_succ, List.length_cons, List.length_nil, List.set_cons_zero, List.set_cons_succ, ↓reduceIte, Bool.not_true, Bool.not_false, true_and, and_true, not_true_eq_false, not_false_eq_true, decide_true, decide_false, Nat.reduceEqDiff, Nat.reduceAdd, Nat.reduceMul, Nat.reducePow, Int.reduceToNat, Int.reducePow, Nat.zero_add, Nat.mul_one, Int.toNat_natCast, e2, e5, e6, e7, e8, e13, e15, e16, R4_40]
        have hpi : (ol.getD i 0).toNat = piO ol i := rfl
        have hne : ∀ s, s < i → ¬ piO ol i = piO ol s := fun s hs q => by
          have h1 := po.rng s (by omega)
          have := po.inj i s (by omega) (by omega) (by unfold piO at q; omega)
          omega
        refine ⟨_, by omega, i + 1, _, N.set (ol.getD i 0).toNat r, _, rfl, by omega, by simp, ?_, oox.chg cz (by omega), ocx.chg cz (by omega), ox.chg cz (by omega), oz, by simp [hws], by simp [hN], by simp [hRl], fun j hj => ?_, gphx.chg cz (by omega), by omega, fun s hs => ?_, fun s hs => ?_⟩
        · rw [cz.at_ _ (by omega) (by omega)]; exact btx
        · rw [List.length_set] at hj
          rw [getD_set (by omega), getD_set (by omega)]
          by_cases e : (ol.getD i 0).toNat = j
          · rw [if_pos e, if_pos e]
            exact ⟨(oux.chg cz (by omega)).sl, by omega, by have := hrt.1; omega⟩
          · rw [if_neg e, if_neg e]
            obtain ⟨a1, a2, a3⟩ := hrow j hj
            exact ⟨((a1.gp gh).chg cx (by omega)).chg cz (by omega), a2, a3⟩
        · rw [getD_set (by omega), hpi]
          by_cases e : s = i
          · subst e; rw [if_pos rfl]; exact hrt
          · rw [if_neg (hne s (by omega))]; exact hr1 s (by omega)
        · rw [getD_set (by omega), hpi]
          by_cases e : s = i
          · subst e; rw [if_pos rfl]
          · rw [if_neg (hne s (by omega))]; exact hr2 s (by omega)
    · have : i = d.next.length := by omega
      subst this
      simp (maxSteps := 2000000) (disch := first | omega | assumption | (simp only [oneC_int, oneC_bool, oneC_str, oneC_ptr, oneC_sl, oneC_map]; done) | (simp only [List.length_cons, List.length_nil, List.length_set, List.length_map, List.length_replicate, List.length_append, List.length_take, List.length_drop, Int.toNat_natCast] <;> omega) | fail) only [Go.Rx.vi, Go.Rx.vb, Go.Rx.vstr, rxc, rxo, Nat.reduceLeDiff, List.getElem?_cons_zero, List.getElem?_cons_succ, List.length_cons, List.length_nil, List.set_cons_zero, List.set_cons_succ, ↓reduceIte, Bool.not_true, Bool.not_false, true_and, and_true, not_true_eq_false, not_false_eq_true, decide_true, decide_false, Nat.reduceEqDiff, Nat.reduceAdd, Nat.reduceMul, Nat.reducePow, Int.reduceToNat, Int.reducePow, Nat.zero_add, Nat.mul_one, Int.toNat_natCast, e2, e13]
      exact ⟨ws, N, Rl, bt, ow, oy, hws, hN, hRl, hrow, gp, hnc, hr1, hr2⟩
  rintro e hh ⟨ws, N, Rl, e2, e13, bt, ow, oy, hws, hN, hRl, hrow, gp, hnc, hr1, hr2⟩
  have zn3 := gp.next
  have bhh : hh.at h.next = some (.cells (dfaC d.start d.cls vn vr) 34 true) := by rw [gp.at_ _ (by omega) (by omega)]; exact b4
  have hcd13 : cut (dfaC ost pl vw vy) 0 259 = some (dfaC ost pl vw vy) := cut_all (dfaC_len hpl)
  have dT : DfaV hh (fun _ => True) (.agg ⟨dfaC ost pl vw vy⟩) vw vy ws ⟨ost, pl, N, Rl⟩ := by
    refine ⟨rfl, hpl, fun b hb => ?_, ⟨ow.sl, by rw [hws]; exact hN.symm, fun j hj => (hrow j hj).1, fun _ _ => trivial⟩, oy.sl, trivial, trivial, by show N.length < _; omega, by show Rl.length < _; omega, fun j hj => by have := (hrow j hj).2.2; show (N.getD j []).length < _; omega⟩
    have hcb := hd.byte b hb
    have hcm := k10 b hb
    have := pc.rng (d.cls.getD b 0).toNat (by omega)
    show 0 ≤ pl.getD b 0 ∧ pl.getD b 0 < 256
    rw [hcls b hb]
    omega
  have ts' : TurnedS ol cl d ⟨ost, pl, N, Rl⟩ := ⟨eost.symm, hN, hRl, hpl, hcls, hr1, hr2⟩
  have ok2 := ts'.dok ok' hd.cls hd.byte po pc
  have em := ts'.emb ok' hd.cls hd.byte po pc
  simp (maxSteps := 2000000) (disch := first | omega | assumption | (simp only [oneC_int, oneC_bool, oneC_str, oneC_ptr, oneC_sl, oneC_map]; done) | (simp only [List.length_cons, List.length_nil, List.length_set, List.length_map, List.length_replicate, List.length_append, List.length_take, List.length_drop, Int.toNat_natCast] <;> omega) | fail) only [Go.Rx.vi, Go.Rx.vb, Go.Rx.vstr, rxc, rxo, Nat.reduceLeDiff, List.getElem?_cons_zero, List.getElem?_cons_succ, List.length_cons, List.length_nil, List.set_cons_zero, List.set_cons_succ, ↓reduceIte, Bool.not_true, Bool.not_false, true_and, and_true, not_true_eq_false, not_false_eq_true, decide_true, decide_false, Nat.reduceEqDiff, Nat.reduceAdd, Nat.reduceMul, Nat.reducePow, Int.reduceToNat, Int.reducePow, Nat.zero_add, Nat.mul_one, Int.toNat_natCast, R4_41, e2, bhh, hcd]
  refine hL (by omega) (d4.gp gp) ok' fun h7 x w wn wr xs g7 dx lx => ?_
  have hwv := dx.val
  subst hwv
  have n7 := g7.next
  have z9 : (dfaC x.start x.cls wn wr).length = 259 := dfaC_len dx.cls
  have zone9 : allOne (dfaC x.start x.cls wn wr) = true := allOne_dfaC dx.next.sl.isSl dx.rule.isSl
  have zne9 : dfaC x.start x.cls wn wr ≠ [] := fun e => by rw [e] at z9; simp at z9
  simp (maxSteps := 2000000) (disch := first | omega | assumption | (simp only [oneC_int, oneC_bool, oneC_str, oneC_ptr, oneC_sl, oneC_map]; done) | (simp only [List.length_cons, List.length_nil, List.length_set, List.length_map, List.length_replicate, List.length_append, List.length_take, List.length_drop, Int.toNat_natCast] <;> omega) | fail) only [Go.Rx.vi, Go.Rx.vb, Go.Rx.vstr, rxc, rxo, Nat.reduceLeDiff, List.getElem?_cons_zero, List.getElem?_cons_succ, List.length_cons, List.length_nil, List.set_cons_zero, List.set_cons_succ, ↓reduceIte, Bool.not_true, Bool.not_false, true_and, and_true, not_true_eq_false, not_false_eq_true, decide_true, decide_false, Nat.reduceEqDiff, Nat.reduceAdd, Nat.reduceMul, Nat.reducePow, Int.reduceToNat, Int.reducePow, Nat.zero_add, Nat.mul_one, Int.toNat_natCast, e2, e13, dfa0, epl, z9, stM_full zone9 zne9 (z9.trans (z259 _ _ _).symm)]
  obtain ⟨hv, ehv, gv, nv, bv⟩ := boxed h7 (dfaC 0 pl0 (.slice none 0 0) (.slice none 0 0)) 34
  rw [ehv]
  have cv : Chg h7.next hv (hv.set h7.next (some (.cells (dfaC x.start x.cls wn wr) 34 true))) := Chg.set
  have bv2 : (hv.set h7.next (some (.cells (dfaC x.start x.cls wn wr) 34 true))).at h7.next = _ := at_set_same
  generalize hv.set h7.next (some (.cells (dfaC x.start x.cls wn wr) 34 true)) = h8 at cv bv2 ⊢
  have g8 : GrowP h7 h8 := gv.p.chg cv (by omega)
  have n8 := cv.next
  have bt8 : h8.at hy.next = some (.cells (dfaC ost pl vw vy) 34 true) := by rw [g8.at_ _ (by omega) (by omega), g7.at_ _ (by omega) (by omega)]; exact bt
  simp (maxSteps := 2000000) (disch := first | omega | assumption | (simp only [oneC_int, oneC_bool, oneC_str, oneC_ptr, oneC_sl, oneC_map]; done) | (simp only [List.length_cons, List.length_nil, List.length_set, List.length_map, List.length_replicate, List.length_append, List.length_take, List.length_drop, Int.toNat_natCast] <;> omega) | fail) only [Go.Rx.vi, Go.Rx.vb, Go.Rx.vstr, rxc, rxo, Nat.reduceLeDiff, List.getElem?_cons_zero, List.getElem?_cons_succ, List.length_cons, List.length_nil, List.set_cons_zero, List.set_cons_succ, ↓reduceIte, Bool.not_true, Bool.not_false, true_and, and_true, not_true_eq_false, not_false_eq_true, decide_true, decide_false, Nat.reduceEqDiff, Nat.reduceAdd, Nat.reduceMul, Nat.reducePow, Int.reduceToNat, Int.reducePow, Nat.zero_add, Nat.mul_one, Int.toNat_natCast, R4_42, e2, e13, bt8, hcd13]
  refine hL (by omega) (dT.gp (g7.trans g8)) ok2 fun h9 x' w' wn' wr' xs' g9 dx' lx' => ?_
  have hxx : x' = x := least_same em lx lx'
  subst hxx
  have hwv' := dx'.val
  subst hwv'
  have n9 := g9.next
  have z9' : (dfaC x'.start x'.cls wn' wr').length = 259 := dfaC_len dx'.cls
  have zone9' : allOne (dfaC x'.start x'.cls wn' wr') = true := allOne_dfaC dx'.next.sl.isSl dx'.rule.isSl
  have zne9' : dfaC x'.start x'.cls wn' wr' ≠ [] := fun e => by rw [e] at z9'; simp at z9'
  simp (maxSteps := 2000000) (disch := first | omega | assumption | (simp only [oneC_int, oneC_bool, oneC_str, oneC_ptr, oneC_sl, oneC_map]; done) | (simp only [List.length_cons, List.length_nil, List.length_set, List.length_map, List.length_replicate, List.length_append, List.length_take, List.length_drop, Int.toNat_natCast] <;> omega) | fail) only [Go.Rx.vi, Go.Rx.vb, Go.Rx.vstr, rxc, rxo, Nat.reduceLeDiff, List.getElem?_cons_zero, List.getElem?_cons_succ, List.length_cons, List.length_nil, List.set_cons_zero, List.set_cons_succ, ↓reduceIte, Bool.not_true, Bool.not_false, true_and, and_true, not_true_eq_false, not_false_eq_true, decide_true, decide_false, Nat.reduceEqDiff, Nat.reduceAdd, Nat.reduceMul, Nat.reducePow, Int.reduceToNat, Int.reducePow, Nat.zero_add, Nat.mul_one, Int.toNat_natCast, e2, e13, dfa0, epl, z9', stM_full zone9' zne9' (z9'.trans (z259 _ _ _).symm)]
  obtain ⟨hv2, ehv2, gv2, nv2, bvv⟩ := boxed h9 (dfaC 0 pl0 (.slice none 0 0) (.slice none 0 0)) 34
  rw [ehv2]
  have cv2 : Chg h9.next hv2 (hv2.set h9.next (some (.cells (dfaC x'.start x'.cls wn' wr') 34 true))) := Chg.set
  have bv3 : (hv2.set h9.next (some (.cells (dfaC x'.start x'.cls wn' wr') 34 true))).at h9.next = _ := at_set_same
  generalize hv2.set h9.next (some (.cells (dfaC x'.start x'.cls wn' wr') 34 true)) = ha at cv2 bv3 ⊢
  have ga : GrowP h9 ha := gv2.p.chg cv2 (by omega)
  have bva : ha.at h7.next = some (.cells (dfaC x'.start x'.cls wn wr) 34 true) := by rw [ga.at_ _ (by omega) (by omega), g9.at_ _ (by omega) (by omega)]; exact bv2
  have hcx : cut (dfaC x'.start x'.cls wn wr) 0 259 = some (dfaC x'.start x'.cls wn wr) := cut_all z9
  have hcx' : cut (dfaC x'.start x'.cls wn' wr') 0 259 = some (dfaC x'.start x'.cls wn' wr') := cut_all z9'
  simp (maxSteps := 2000000) (disch := first | omega | assumption | (simp only [oneC_int, oneC_bool, oneC_str, oneC_ptr, oneC_sl, oneC_map]; done) | (simp only [List.length_cons, List.length_nil, List.length_set, List.length_map, List.length_replicate, List.length_append, List.length_take, List.length_drop, Int.toNat_natCast] <;> omega) | fail) only [Go.Rx.vi, Go.Rx.vb, Go.Rx.vstr, rxc, rxo, Nat.reduceLeDiff, List.getElem?_cons_zero, List.getElem?_cons_succ, List.length_cons, List.length_nil, List.set_cons_zero, List.set_cons_succ, ↓reduceIte, Bool.not_true, Bool.not_false, true_and, and_true, not_true_eq_false, not_false_eq_true, decide_true, decide_false, Nat.reduceEqDiff, Nat.reduceAdd, Nat.reduceMul, Nat.reducePow, Int.reduceToNat, Int.reducePow, Nat.zero_add, Nat.mul_one, Int.toNat_natCast, R4_43, e2, e13, bva, bv3, hcx, hcx']
  refine hS (dx.gp (g8.trans (g9.trans ga))) (dx'.gp ga) rfl fun hf gf => ?_
  simp (maxSteps := 2000000) (disch := first | omega | assumption | (simp only [oneC_int, oneC_bool, oneC_str, oneC_ptr, oneC_sl, oneC_map]; done) | (simp only [List.length_cons, List.length_nil, List.length_set, List.length_map, List.length_replicate, List.length_append, List.length_take, List.length_drop, Int.toNat_natCast] <;> omega) | fail) only [Go.Rx.vi, Go.Rx.vb, Go.Rx.vstr, rxc, rxo, Nat.reduceLeDiff, List.getElem?_cons_zero, List.getElem?_cons_succ, List.length_cons, List.length_nil, List.set_cons_zero, List.set_cons_succ, ↓reduceIte, Bool.not_true, Bool.not_false, true_and, and_true, not_true_eq_false, not_false_eq_true, decide_true, decide_false, Nat.reduceEqDiff, Nat.reduceAdd, Nat.reduceMul, Nat.reducePow, Int.reduceToNat, Int.reducePow, Nat.zero_add, Nat.mul_one, Int.toNat_natCast]
  refine WF_true hO17 ?_
  simp (maxSteps := 2000000) (disch := first | omega | assumption | (simp only [oneC_int, oneC_bool, oneC_str, oneC_ptr, oneC_sl, oneC_map]; done) | (simp only [List.length_cons, List.length_nil, List.length_set, List.length_map, List.length_replicate, List.length_append, List.length_take, List.length_drop, Int.toNat_natCast] <;> omega) | fail) only [Go.Rx.vi, Go.Rx.vb, Go.Rx.vstr, rxc, rxo, Nat.reduceLeDiff, List.getElem?_cons_zero, List.getElem?_cons_succ, List.length_cons, List.length_nil, List.set_cons_zero, List.set_cons_succ, ↓reduceIte, Bool.not_true, Bool.not_false, true_and, and_true, not_true_eq_false, not_false_eq_true, decide_true, decide_false, Nat.reduceEqDiff, Nat.reduceAdd, Nat.reduceMul, Nat.reducePow, Int.reduceToNat, Int.reducePow, Nat.zero_add, Nat.mul_one, Int.toNat_natCast]
  exact hk _
end Go.Rx
