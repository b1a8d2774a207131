/- MiniMore, walked. -/
import Derived.Test.YtabhplelhjcdiaaMgE
namespace Go.Rx
variable {M : Mach}
set_option maxRecDepth 4000
set_option linter.unusedSimpArgs false
set_option linter.unusedVariables false

theorem OwnV.appsc {h : Heap} {t : TypeId} {v y : Value} {vs ws : List Value} {bytes : Nat} (h1 : 1 ≤ h.next) (ho : OwnV h t v vs) (hy : SlV h y ws) (hx : ∀ x ∈ ws, isAggV x = false) (hb : (vs.length + ws.length) * (bytes + 1) ≤ 140737488355328) :
    ∃ v' h', appV h t 1 bytes v y = some (v', h') ∧ OwnV h' t v' (vs ++ ws) ∧ Chg (bno v) h h' ∧ (bno v' = bno v ∨ h.next ≤ bno v') := by
  have hone := allOne_of hx
  obtain ⟨v', h', e1, e2, e3, e4, e5⟩ := ho.app (new := ws) (bytes := bytes) h1 (y := y) (by
    obtain ⟨_, ⟨rfl, rfl⟩ | ⟨b, off, sp, c, cs, e, rw', rfl, hb1, h2, h3, h4⟩⟩ := hy
    · rfl
    · show (match rdB off (ws.length * 1) (h.at b) with | some l => bif allOne l then some (l, ws.length) else none | none => none) = _
      have : cut cs off (ws.length * 1) = some ws := by
        rw [Nat.mul_one, cut_ok h3]
        congr 1
        apply List.ext_getElem?
        intro i
        rw [List.getElem?_take]
        split
        · rename_i hi
          rw [List.getElem?_drop, h4 i hi]
        · rename_i hi
          rw [List.getElem?_eq_none (by omega)]
      rw [h2, rdB_cells, this]
      simp only [hone, cond_true]) hone hb
  exact ⟨v', h', e1, e2, ⟨e3, e4⟩, e5⟩
theorem staysAll_cons {ev : Ev} {l : List GI} {e : Env} {hs : List Heap} {p q : Nat} {h1 h2 : Heap} {r : List (Nat × Nat)} (e1 : hs[q]? = some h1) (e2 : hs[q + 1]? = some h2) (s1 : stays ev l e p (some h1) = true) (s2 : stays ev l e p (some h2) = true) (s3 : staysAll ev l e hs r = true) : staysAll ev l e hs ((p, q) :: r) = true := by
  simp only [staysAll, e1, e2, s1, s2, s3, Bool.and_self]
theorem sameL_ints {k : IntKind} : ∀ l : List Int, sameL (l.map (.int k)) (l.map (.int k)) = true
  | [] => rfl
  | x :: l => by
    show (sameV (.int k x) (.int k x) && sameL (l.map (.int k)) (l.map (.int k))) = true
    rw [sameL_ints l, Bool.and_true]
    exact sameA_int
theorem sameA_ints {k : IntKind} {l : List Int} : sameA (.agg ⟨l.map (.int k)⟩) (.agg ⟨l.map (.int k)⟩) = true := sameL_ints l
theorem dfaC_cutc {vn vr : Value} {pl : List Int} {s : Int} (hp : pl.length = 256) : cut (dfaC s pl vn vr) 1 256 = some (pl.map (.int .u8)) := by
  rw [cut_ok (by rw [dfaC_len hp]; omega)]
  show some ((pl.map (Value.int .u8) ++ [vn, vr]).take 256) = _
  rw [List.take_left' (by simp [hp])]
theorem dfa_fill1 {vn vr : Value} {pl pl' : List Int} {s : Int} (hp : pl.length = 256) (hp' : pl'.length = 256) {e : Env} {r : List (Nat × Nat × Opd)} : fillQ e (dfaC s pl vn vr) 1 (some (pl'.map (.int .u8))) r = fillP e (dfaC s pl' vn vr) r := by
  rw [fillQ_many (fun h => by rw [List.map_eq_nil_iff] at h; rw [h] at hp'; simp at hp') (by rw [dfaC_len hp, List.length_map, hp']; omega)]
  congr 1
  rw [List.length_map, hp']
  show [Value.int .i64 s] ++ pl'.map (.int .u8) ++ (pl.map (Value.int .u8) ++ [vn, vr]).drop 256 = _
  rw [List.drop_left' (by simp [hp])]
  rfl

set_option maxHeartbeats 1000000 in
theorem more_ok (hm : M.Mono) (hO15 : M.O 15 = none) (hF15 : M.F 15 = some A15) (hO16 : M.O 16 = none) (hF16 : M.F 16 = some A16) (hO40 : M.O 40 = none) (hF40 : M.F 40 = some A40) (hO41 : M.O 41 = none) (hF41 : M.F 41 = some A41) (hO18 : M.O 18 = none) (hF18 : M.F 18 = some A18)
  (hO17 : M.O 17 = some saysTrue) (hO : M.O 5 = none) (hF : M.F 5 = some A5)
  (hL : ∀ {v vn vr : Value} {us : List Value} {S : Nat → Prop} {d : DfaD} {h : Heap} {K : KF}, 1 ≤ h.next → DfaV h S v vn vr us d → Dok d → (∀ h' x w wn wr ws, GrowP h h' → DfaV h' (fun b => b = 0 ∨ h.next ≤ b) w wn wr ws x → LeastS d x → K (.tuple ⟨[w, .int .i64 0]⟩) h') → WF M 19 [v] h K)
  (hS : ∀ {v vn vr w wn wr : Value} {us ws : List Value} {S T : Nat → Prop} {c d : DfaD} {h : Heap} {K : KF}, DfaV h S v vn vr us c → DfaV h T w wn wr ws d → c = d → (∀ h', Grow h h' → K (.bool true) h') → WF M 20 [v, w] h K)
  {v vn vr vt : Value} {us : List Value} {S : Nat → Prop} {d : DfaD} {ts : List Int} {rule : Int} {h : Heap} {K : KF} (h1n : 1 ≤ h.next) (hd : DfaV h S v vn vr us d) (ht : SlV h vt (ts.map (.int .i64)))
  (hk : ∀ h', K (.bool true) h') : WF M 5 [v, vt, .int .i64 rule] h K := by
  have hv := hd.val
  subst hv
  rw [WF_eqT 16 hO hF]
  simp (maxSteps := 2000000) (disch := first | omega | assumption | (simp only [oneC_int, oneC_bool, oneC_str, oneC_ptr, oneC_sl, oneC_map]; done) | (simp only [List.length_cons, List.length_nil, List.length_set, List.length_map, List.length_replicate, List.length_append, List.length_take, List.length_drop, Int.toNat_natCast] <;> omega) | fail) only [Go.Rx.vi, Go.Rx.vb, Go.Rx.vstr, rxc, rxo, Nat.reduceLeDiff, List.getElem?_cons_zero, List.getElem?_cons_succ, List.length_cons, List.length_nil, List.set_cons_zero, List.set_cons_succ, ↓reduceIte, Bool.not_true, Bool.not_false, true_and, and_true, not_true_eq_false, not_false_eq_true, decide_true, decide_false, Nat.reduceEqDiff, Nat.reduceAdd, Nat.reduceMul, Nat.reducePow, Int.reduceToNat, Int.reducePow, Nat.zero_add, Nat.mul_one, Int.toNat_natCast, A5, R5_0, dfaC_len hd.cls]
  obtain ⟨h1, e1, g1, n1, b1⟩ := boxed h (dfaC d.start d.cls vn vr) 34
  rw [e1]
  have hcd : cut (dfaC d.start d.cls vn vr) 0 259 = some (dfaC d.start d.cls vn vr) := cut_all (dfaC_len hd.cls)
  have d1 := hd.grow g1
  simp (maxSteps := 2000000) (disch := first | omega | assumption | (simp only [oneC_int, oneC_bool, oneC_str, oneC_ptr, oneC_sl, oneC_map]; done) | (simp only [List.length_cons, List.length_nil, List.length_set, List.length_map, List.length_replicate, List.length_append, List.length_take, List.length_drop, Int.toNat_natCast] <;> omega) | fail) only [Go.Rx.vi, Go.Rx.vb, Go.Rx.vstr, rxc, rxo, Nat.reduceLeDiff, List.getElem?_cons_zero, List.getElem?_cons_succ, List.length_cons, List.length_nil, List.set_cons_zero, List.set_cons_succ, ↓reduceIte, Bool.not_true, Bool.not_false, true_and, and_true, not_true_eq_false, not_false_eq_true, decide_true, decide_false, Nat.reduceEqDiff, Nat.reduceAdd, Nat.reduceMul, Nat.reducePow, Int.reduceToNat, Int.reducePow, Nat.zero_add, Nat.mul_one, Int.toNat_natCast, R5_1, b1, hcd]
  refine dfaBig_ok hO15 hF15 d1 (by omega) (by omega) fun bg h2 g2 => ?_
  have n2 := g2.1
  have b2 : h2.at h.next = some (.cells (dfaC d.start d.cls vn vr) 34 true) := by rw [g2.2 _ (by omega)]; exact b1
  have d2 := d1.grow g2
  cases bg
  case true =>
    simp (maxSteps := 2000000) (disch := first | omega | assumption | (simp only [oneC_int, oneC_bool, oneC_str, oneC_ptr, oneC_sl, oneC_map]; done) | (simp only [List.length_cons, List.length_nil, List.length_set, List.length_map, List.length_replicate, List.length_append, List.length_take, List.length_drop, Int.toNat_natCast] <;> omega) | fail) only [Go.Rx.vi, Go.Rx.vb, Go.Rx.vstr, rxc, rxo, Nat.reduceLeDiff, List.getElem?_cons_zero, List.getElem?_cons_succ, List.length_cons, List.length_nil, List.set_cons_zero, List.set_cons_succ, ↓reduceIte, Bool.not_true, Bool.not_false, true_and, and_true, not_true_eq_false, not_false_eq_true, decide_true, decide_false, Nat.reduceEqDiff, Nat.reduceAdd, Nat.reduceMul, Nat.reducePow, Int.reduceToNat, Int.reducePow, Nat.zero_add, Nat.mul_one, Int.toNat_natCast, R5_2]
    refine WF_true hO17 ?_
    simp (maxSteps := 2000000) (disch := first | omega | assumption | (simp only [oneC_int, oneC_bool, oneC_str, oneC_ptr, oneC_sl, oneC_map]; done) | (simp only [List.length_cons, List.length_nil, List.length_set, List.length_map, List.length_replicate, List.length_append, List.length_take, List.length_drop, Int.toNat_natCast] <;> omega) | fail) only [Go.Rx.vi, Go.Rx.vb, Go.Rx.vstr, rxc, rxo, Nat.reduceLeDiff, List.getElem?_cons_zero, List.getElem?_cons_succ, List.length_cons, List.length_nil, List.set_cons_zero, List.set_cons_succ, ↓reduceIte, Bool.not_true, Bool.not_false, true_and, and_true, not_true_eq_false, not_false_eq_true, decide_true, decide_false, Nat.reduceEqDiff, Nat.reduceAdd, Nat.reduceMul, Nat.reducePow, Int.reduceToNat, Int.reducePow, Nat.zero_add, Nat.mul_one, Int.toNat_natCast]
    exact hk _
  simp (maxSteps := 2000000) (disch := first | omega | assumption | (simp only [oneC_int, oneC_bool, oneC_str, oneC_ptr, oneC_sl, oneC_map]; done) | (simp only [List.length_cons, List.length_nil, List.length_set, List.length_map, List.length_replicate, List.length_append, List.length_take, List.length_drop, Int.toNat_natCast] <;> omega) | fail) only [Go.Rx.vi, Go.Rx.vb, Go.Rx.vstr, rxc, rxo, Nat.reduceLeDiff, List.getElem?_cons_zero, List.getElem?_cons_succ, List.length_cons, List.length_nil, List.set_cons_zero, List.set_cons_succ, ↓reduceIte, Bool.not_true, Bool.not_false, true_and, and_true, not_true_eq_false, not_false_eq_true, decide_true, decide_false, Nat.reduceEqDiff, Nat.reduceAdd, Nat.reduceMul, Nat.reducePow, Int.reduceToNat, Int.reducePow, Nat.zero_add, Nat.mul_one, Int.toNat_natCast, b2, hcd]
  refine dfaCheck_ok hO40 hF40 hO41 hF41 hO16 hF16 (by omega) d2 fun r h3 g3 hr => ?_
  have n3 := g3.1
  have b3 : h3.at h.next = some (.cells (dfaC d.start d.cls vn vr) 34 true) := by rw [g3.2 _ (by omega)]; exact b2
  have d3 := d2.grow g3
  have hl := d3.next.len
  have r3 := d3.next.sl.r
  simp only [hl] at r3
  have done : ∀ {e : Env} {hh : Heap} {Q : KC}, Q .normal e hh → True := fun _ => trivial
  by_cases hok : r = 0 ∧ d.next.length < 2048 ∧ rule < 48
  case neg =>
    repeat' first
      | refine WG_dec (fun hc => ?_) (fun hc => ?_)
      | refine WCond_dec (fun hc => ?_) (fun hc => ?_)
      | refine WF_true hO17 ?_
      | simp (maxSteps := 2000000) (disch := first | omega | assumption | (simp only [oneC_int, oneC_bool, oneC_str, oneC_ptr, oneC_sl, oneC_map]; done) | (simp only [List.length_cons, List.length_nil, List.length_set, List.length_map, List.length_replicate, List.length_append, List.length_take, List.length_drop, Int.toNat_natCast] <;> omega) | fail) only [Go.Rx.vi, Go.Rx.vb, Go.Rx.vstr, rxc, rxo, Nat.reduceLeDiff, List.getElem?_cons_zero, List.getElem?_cons_succ, List.length_cons, List.length_nil, List.set_cons_zero, List.set_cons_succ, ↓reduceIte, Bool.not_true, Bool.not_false, true_and, and_true, not_true_eq_false, not_false_eq_true, decide_true, decide_false, Nat.reduceEqDiff, Nat.reduceAdd, Nat.reduceMul, Nat.reducePow, Int.reduceToNat, Int.reducePow, Nat.zero_add, Nat.mul_one, Int.toNat_natCast, R5_2, b3, dfaC_257 hd.cls, r3]
    all_goals first
      | (exfalso; omega)
      | exact hk _
  obtain ⟨q0, q1, q2⟩ := hok
  have ok : Dok d := hr.1 q0
  have ok' := ok
  obtain ⟨k1, k2, k3, k4, k5, k6, k7, k8⟩ := ok
  obtain ⟨k9, k10⟩ := cls_bounds hd.cls hd.byte k7
  have q3 : ¬ (2048 : Int) ≤ d.next.length := by omega
  have q4 : ¬ (48 : Int) ≤ rule := by omega
  subst q0
  simp (maxSteps := 2000000) (disch := first | omega | assumption | (simp only [oneC_int, oneC_bool, oneC_str, oneC_ptr, oneC_sl, oneC_map]; done) | (simp only [List.length_cons, List.length_nil, List.length_set, List.length_map, List.length_replicate, List.length_append, List.length_take, List.length_drop, Int.toNat_natCast] <;> omega) | fail) only [Go.Rx.vi, Go.Rx.vb, Go.Rx.vstr, rxc, rxo, Nat.reduceLeDiff, List.getElem?_cons_zero, List.getElem?_cons_succ, List.length_cons, List.length_nil, List.set_cons_zero, List.set_cons_succ, ↓reduceIte, Bool.not_true, Bool.not_false, true_and, and_true, not_true_eq_false, not_false_eq_true, decide_true, decide_false, Nat.reduceEqDiff, Nat.reduceAdd, Nat.reduceMul, Nat.reducePow, Int.reduceToNat, Int.reducePow, Nat.zero_add, Nat.mul_one, Int.toNat_natCast, b3, dfaC_257 hd.cls, r3, q3, q4, R5_3, hcd]
  refine dfaWhole_ok hm hO18 hF18 d3 ok' fun h4 g4 => ?_
  have n4 := g4.1
  have b4 : h4.at h.next = some (.cells (dfaC d.start d.cls vn vr) 34 true) := by rw [g4.2 _ (by omega)]; exact b3
  have d4 := d3.grow g4
  have r := d4.next.sl.r
  have hrow0 := (d4.next.row 0 (by omega)).r
  simp only [List.length_map, hl] at r hrow0
  simp (maxSteps := 2000000) (disch := first | omega | assumption | (simp only [oneC_int, oneC_bool, oneC_str, oneC_ptr, oneC_sl, oneC_map]; done) | (simp only [List.length_cons, List.length_nil, List.length_set, List.length_map, List.length_replicate, List.length_append, List.length_take, List.length_drop, Int.toNat_natCast] <;> omega) | fail) only [Go.Rx.vi, Go.Rx.vb, Go.Rx.vstr, rxc, rxo, Nat.reduceLeDiff, List.getElem?_cons_zero, List.getElem?_cons_succ, List.length_cons, List.length_nil, List.set_cons_zero, List.set_cons_succ, ↓reduceIte, Bool.not_true, Bool.not_false, true_and, and_true, not_true_eq_false, not_false_eq_true, decide_true, decide_false, Nat.reduceEqDiff, Nat.reduceAdd, Nat.reduceMul, Nat.reducePow, Int.reduceToNat, Int.reducePow, Nat.zero_add, Nat.mul_one, Int.toNat_natCast]
  refine WC_regd0 hm ?_
  simp (maxSteps := 2000000) (disch := first | omega | assumption | (simp only [oneC_int, oneC_bool, oneC_str, oneC_ptr, oneC_sl, oneC_map]; done) | (simp only [List.length_cons, List.length_nil, List.length_set, List.length_map, List.length_replicate, List.length_append, List.length_take, List.length_drop, Int.toNat_natCast] <;> omega) | fail) only [Go.Rx.vi, Go.Rx.vb, Go.Rx.vstr, rxc, rxo, Nat.reduceLeDiff, List.getElem?_cons_zero, List.getElem?_cons_succ, List.length_cons, List.length_nil, List.set_cons_zero, List.set_cons_succ, ↓reduceIte, Bool.not_true, Bool.not_false, true_and, and_true, not_true_eq_false, not_false_eq_true, decide_true, decide_false, Nat.reduceEqDiff, Nat.reduceAdd, Nat.reduceMul, Nat.reducePow, Int.reduceToNat, Int.reducePow, Nat.zero_add, Nat.mul_one, Int.toNat_natCast, R5_5, b4, dfaC_257 hd.cls, r, vals_get, hrow0, Int.toNat_zero, R5_6]
  refine WI_makec (by omega) (by omega) (by omega) (by omega) (by omega) (by decide) fun vx h5 ox g5 fx => ?_
  simp only [Int.toNat_natCast, ints_rep] at ox
  have n5 := g5.next
  simp (maxSteps := 2000000) (disch := first | omega | assumption | (simp only [oneC_int, oneC_bool, oneC_str, oneC_ptr, oneC_sl, oneC_map]; done) | (simp only [List.length_cons, List.length_nil, List.length_set, List.length_map, List.length_replicate, List.length_append, List.length_take, List.length_drop, Int.toNat_natCast] <;> omega) | fail) only [Go.Rx.vi, Go.Rx.vb, Go.Rx.vstr, rxc, rxo, Nat.reduceLeDiff, List.getElem?_cons_zero, List.getElem?_cons_succ, List.length_cons, List.length_nil, List.set_cons_zero, List.set_cons_succ, ↓reduceIte, Bool.not_true, Bool.not_false, true_and, and_true, not_true_eq_false, not_false_eq_true, decide_true, decide_false, Nat.reduceEqDiff, Nat.reduceAdd, Nat.reduceMul, Nat.reducePow, Int.reduceToNat, Int.reducePow, Nat.zero_add, Nat.mul_one, Int.toNat_natCast, R5_7]
  refine WC_bloop 16 (fun m e hh => ∃ (i : Nat) (xl : List Int), m = (d.next.getD 0 []).length - i ∧ i ≤ (d.next.getD 0 []).length ∧ e.g 1 = vt ∧ e.g 2 = .int .i64 rule ∧ e.g 3 = pB h.next ∧ e.g 7 = .int .i64 d.next.length ∧ e.g 8 = .int .i64 (d.next.getD 0 []).length ∧ e.g 9 = vx ∧ e.g 10 = .int .i64 i ∧
      OwnV hh 3 vx (xl.map (.int .i64)) ∧ GrowP h4 hh ∧ xl.length = (d.next.getD 0 []).length ∧ ∀ j : Nat, j < i → xl.getD j 0 ≤ d.next.length)
    (fun e hh => ∃ (xl : List Int), e.g 2 = .int .i64 rule ∧ e.g 3 = pB h.next ∧ e.g 9 = vx ∧
      OwnV hh 3 vx (xl.map (.int .i64)) ∧ GrowP h4 hh ∧ xl.length = (d.next.getD 0 []).length ∧ ∀ j : Nat, j < (d.next.getD 0 []).length → xl.getD j 0 ≤ d.next.length) ?_ ?_ ?_
  · refine ⟨_, 0, _, rfl, by omega, ?_, ?_, ?_, ?_, ?_, ?_, ?_, ox, g5, by simp, fun j hj => by omega⟩
    all_goals simp (maxSteps := 2000000) (disch := first | omega | assumption | (simp only [oneC_int, oneC_bool, oneC_str, oneC_ptr, oneC_sl, oneC_map]; done) | (simp only [List.length_cons, List.length_nil, List.length_set, List.length_map, List.length_replicate, List.length_append, List.length_take, List.length_drop, Int.toNat_natCast] <;> omega) | fail) only [Go.Rx.vi, Go.Rx.vb, Go.Rx.vstr, rxc, rxo, Nat.reduceLeDiff, List.getElem?_cons_zero, List.getElem?_cons_succ, List.length_cons, List.length_nil, List.set_cons_zero, List.set_cons_succ, ↓reduceIte, Bool.not_true, Bool.not_false, true_and, and_true, not_true_eq_false, not_false_eq_true, decide_true, decide_false, Nat.reduceEqDiff, Nat.reduceAdd, Nat.reduceMul, Nat.reducePow, Int.reduceToNat, Int.reducePow, Nat.zero_add, Nat.mul_one, Int.toNat_natCast]
    rfl
  · rintro m e hh ⟨i, xl, rfl, hi, e1, e2, e3, e7, e8, e9, e10, ox, gp, hxl, hj⟩
    simp (maxSteps := 2000000) (disch := first | omega | assumption | (simp only [oneC_int, oneC_bool, oneC_str, oneC_ptr, oneC_sl, oneC_map]; done) | (simp only [List.length_cons, List.length_nil, List.length_set, List.length_map, List.length_replicate, List.length_append, List.length_take, List.length_drop, Int.toNat_natCast] <;> omega) | fail) only [Go.Rx.vi, Go.Rx.vb, Go.Rx.vstr, rxc, rxo, Nat.reduceLeDiff, List.getElem?_cons_zero, List.getElem?_cons_succ, List.length_cons, List.length_nil, List.set_cons_zero, List.set_cons_succ, ↓reduceIte, Bool.not_true, Bool.not_false, true_and, and_true, not_true_eq_false, not_false_eq_true, decide_true, decide_false, Nat.reduceEqDiff, Nat.reduceAdd, Nat.reduceMul, Nat.reducePow, Int.reduceToNat, Int.reducePow, Nat.zero_add, Nat.mul_one, Int.toNat_natCast, B5_0, R5_8, e1, e2, e3, e7, e8, e9, e10]
    refine WCond_dec (fun hc => ?_) (fun hc => ?_)
    · have xr := ox.sl.r
      simp only [List.length_map, hxl] at xr
      have zn := gp.next
      simp (maxSteps := 2000000) (disch := first | omega | assumption | (simp only [oneC_int, oneC_bool, oneC_str, oneC_ptr, oneC_sl, oneC_map]; done) | (simp only [List.length_cons, List.length_nil, List.length_set, List.length_map, List.length_replicate, List.length_append, List.length_take, List.length_drop, Int.toNat_natCast] <;> omega) | fail) only [Go.Rx.vi, Go.Rx.vb, Go.Rx.vstr, rxc, rxo, Nat.reduceLeDiff, List.getElem?_cons_zero, List.getElem?_cons_succ, List.length_cons, List.length_nil, List.set_cons_zero, List.set_cons_succ, ↓reduceIte, Bool.not_true, Bool.not_false, true_and, and_true, not_true_eq_false, not_false_eq_true, decide_true, decide_false, Nat.reduceEqDiff, Nat.reduceAdd, Nat.reduceMul, Nat.reducePow, Int.reduceToNat, Int.reducePow, Nat.zero_add, Nat.mul_one, Int.toNat_natCast, R5_9, e1, e2, e3, e7, e8, e9, e10, xr]
      refine WI_storec ox (by rw [List.length_map]; omega) rfl fun hx oy cx => ?_
      rw [ints_set] at oy
      have gpx := gp.chg cx (by omega)
      have nx := cx.next
      have tr := (ht.gp (g1.p.trans (g2.p.trans (g3.p.trans (g4.p.trans gpx))))).r
      have xr := oy.sl.r
      simp only [List.length_map, List.length_set, hxl] at xr tr
      have upd : ∀ (l : List Int) (y : Int), (∀ j : Nat, l.getD j 0 = if i = j then y else xl.getD j 0) → y ≤ d.next.length → ∀ j : Nat, j < i + 1 → l.getD j 0 ≤ d.next.length := fun l y h1 h2 j hj2 => by
        rw [h1]
        by_cases e : i = j
        · rw [if_pos e]; exact h2
        · rw [if_neg e]; exact hj j (by omega)
      simp (maxSteps := 2000000) (disch := first | omega | assumption | (simp only [oneC_int, oneC_bool, oneC_str, oneC_ptr, oneC_sl, oneC_map]; done) | (simp only [List.length_cons, List.length_nil, List.length_set, List.length_map, List.length_replicate, List.length_append, List.length_take, List.length_drop, Int.toNat_natCast] <;> omega) | fail) only [Go.Rx.vi, Go.Rx.vb, Go.Rx.vstr, rxc, rxo, Nat.reduceLeDiff, List.getElem?_cons_zero, List.getElem?_cons_succ, List.length_cons, List.length_nil, List.set_cons_zero, List.set_cons_succ, ↓reduceIte, Bool.not_true, Bool.not_false, true_and, and_true, not_true_eq_false, not_false_eq_true, decide_true, decide_false, Nat.reduceEqDiff, Nat.reduceAdd, Nat.reduceMul, Nat.reducePow, Int.reduceToNat, Int.reducePow, Nat.zero_add, Nat.mul_one, Int.toNat_natCast, R5_10, e1, e2, e3, e7, e8, e9, e10, tr]
      refine WCond_dec (fun hc2 => ?_) (fun hc2 => ?_)
      · simp (maxSteps := 2000000) (disch := first | omega | assumption | (simp only [oneC_int, oneC_bool, oneC_str, oneC_ptr, oneC_sl, oneC_map]; done) | (simp only [List.length_cons, List.length_nil, List.length_set, List.length_map, List.length_replicate, List.length_append, List.length_take, List.length_drop, Int.toNat_natCast] <;> omega) | fail) only [Go.Rx.vi, Go.Rx.vb, Go.Rx.vstr, rxc, rxo, Nat.reduceLeDiff, List.getElem?_cons_zero, List.getElem?_cons_succ, List.length_cons, List.length_nil, List.set_cons_zero, List.set_cons_succ, ↓reduceIte, Bool.not_true, Bool.not_false, true_and, and_true, not_true_eq_false, not_false_eq_true, decide_true, decide_false, Nat.reduceEqDiff, Nat.reduceAdd, Nat.reduceMul, Nat.reducePow, Int.reduceToNat, Int.reducePow, Nat.zero_add, Nat.mul_one, Int.toNat_natCast, R5_11, e1, e2, e3, e7, e8, e9, e10, tr, ints_get, xr]
        refine WI_storec oy (by rw [List.length_map, List.length_set]; omega) rfl fun hz oz cz => ?_
        rw [ints_set] at oz
        simp (maxSteps := 2000000) (disch := first | omega | assumption | (simp only [oneC_int, oneC_bool, oneC_str, oneC_ptr, oneC_sl, oneC_map]; done) | (simp only [List.length_cons, List.length_nil, List.length_set, List.length_map, List.length_replicate, List.length_append, List.length_take, List.length_drop, Int.toNat_natCast] <;> omega) | fail) only [Go.Rx.vi, Go.Rx.vb, Go.Rx.vstr, rxc, rxo, Nat.reduceLeDiff, List.getElem?_cons_zero, List.getElem?_cons_succ, List.length_cons, List.length_nil, List.set_cons_zero, List.set_cons_succ, ↓reduceIte, Bool.not_true, Bool.not_false, true_and, and_true, not_true_eq_false, not_false_eq_true, decide_true, decide_false, Nat.reduceEqDiff, Nat.reduceAdd, Nat.reduceMul, Nat.reducePow, Int.reduceToNat, Int.reducePow, Nat.zero_add, Nat.mul_one, Int.toNat_natCast, e1, e2, e3, e7, e8, e9, e10, R5_12]
        refine ⟨_, by omega, i + 1, _, rfl, by omega, by simp, oz, gpx.chg cz (by omega), by simp [hxl], upd _ (min (ts.getD i 0) d.next.length) (fun j => ?_) (by omega)⟩
        rw [getD_set (by rw [List.length_set]; omega), getD_set (by omega)]
        by_cases e : i = j
        · rw [if_pos e, if_pos e]
        · rw [if_neg e, if_neg e, if_neg e]
      · simp (maxSteps := 2000000) (disch := first | omega | assumption | (simp only [oneC_int, oneC_bool, oneC_str, oneC_ptr, oneC_sl, oneC_map]; done) | (simp only [List.length_cons, List.length_nil, List.length_set, List.length_map, List.length_replicate, List.length_append, List.length_take, List.length_drop, Int.toNat_natCast] <;> omega) | fail) only [Go.Rx.vi, Go.Rx.vb, Go.Rx.vstr, rxc, rxo, Nat.reduceLeDiff, List.getElem?_cons_zero, List.getElem?_cons_succ, List.length_cons, List.length_nil, List.set_cons_zero, List.set_cons_succ, ↓reduceIte, Bool.not_true, Bool.not_false, true_and, and_true, not_true_eq_false, not_false_eq_true, decide_true, decide_false, Nat.reduceEqDiff, Nat.reduceAdd, Nat.reduceMul, Nat.reducePow, Int.reduceToNat, Int.reducePow, Nat.zero_add, Nat.mul_one, Int.toNat_natCast, e1, e2, e3, e7, e8, e9, e10, R5_12]
        exact ⟨_, by omega, i + 1, _, rfl, by omega, by simp, oy, gpx, by simp [hxl], upd _ (-1) (fun j => by rw [getD_set (by omega)]) (by omega)⟩
    · simp (maxSteps := 2000000) (disch := first | omega | assumption | (simp only [oneC_int, oneC_bool, oneC_str, oneC_ptr, oneC_sl, oneC_map]; done) | (simp only [List.length_cons, List.length_nil, List.length_set, List.length_map, List.length_replicate, List.length_append, List.length_take, List.length_drop, Int.toNat_natCast] <;> omega) | fail) only [Go.Rx.vi, Go.Rx.vb, Go.Rx.vstr, rxc, rxo, Nat.reduceLeDiff, List.getElem?_cons_zero, List.getElem?_cons_succ, List.length_cons, List.length_nil, List.set_cons_zero, List.set_cons_succ, ↓reduceIte, Bool.not_true, Bool.not_false, true_and, and_true, not_true_eq_false, not_false_eq_true, decide_true, decide_false, Nat.reduceEqDiff, Nat.reduceAdd, Nat.reduceMul, Nat.reducePow, Int.reduceToNat, Int.reducePow, Nat.zero_add, Nat.mul_one, Int.toNat_natCast, e1, e2, e3, e7, e8, e9]
      exact ⟨xl, ox, gp, hxl, fun j hj2 => hj j (by omega)⟩
  rintro e hh ⟨xl, e2, e3, e9, ox, gp, hxl, hxb⟩
  have zn := gp.next
  have bh : hh.at h.next = some (.cells (dfaC d.start d.cls vn vr) 34 true) := by rw [gp.at_ _ (by omega) (by omega)]; exact b4
  have dh := d4.gp gp
  have hcc : cut (dfaC d.start d.cls vn vr) 1 256 = some (d.cls.map (.int .u8)) := dfaC_cutc hd.cls
  simp (maxSteps := 2000000) (disch := first | omega | assumption | (simp only [oneC_int, oneC_bool, oneC_str, oneC_ptr, oneC_sl, oneC_map]; done) | (simp only [List.length_cons, List.length_nil, List.length_set, List.length_map, List.length_replicate, List.length_append, List.length_take, List.length_drop, Int.toNat_natCast] <;> omega) | fail) only [Go.Rx.vi, Go.Rx.vb, Go.Rx.vstr, rxc, rxo, Nat.reduceLeDiff, List.getElem?_cons_zero, List.getElem?_cons_succ, List.length_cons, List.length_nil, List.set_cons_zero, List.set_cons_succ, ↓reduceIte, Bool.not_true, Bool.not_false, true_and, and_true, not_true_eq_false, not_false_eq_true, decide_true, decide_false, Nat.reduceEqDiff, Nat.reduceAdd, Nat.reduceMul, Nat.reducePow, Int.reduceToNat, Int.reducePow, Nat.zero_add, Nat.mul_one, Int.toNat_natCast]
  refine WC_regd hm ?_
  simp (maxSteps := 2000000) (disch := first | omega | assumption | (simp only [oneC_int, oneC_bool, oneC_str, oneC_ptr, oneC_sl, oneC_map]; done) | (simp only [List.length_cons, List.length_nil, List.length_set, List.length_map, List.length_replicate, List.length_append, List.length_take, List.length_drop, Int.toNat_natCast] <;> omega) | fail) only [Go.Rx.vi, Go.Rx.vb, Go.Rx.vstr, rxc, rxo, Nat.reduceLeDiff, List.getElem?_cons_zero, List.getElem?_cons_succ, List.length_cons, List.length_nil, List.set_cons_zero, List.set_cons_succ, ↓reduceIte, Bool.not_true, Bool.not_false, true_and, and_true, not_true_eq_false, not_false_eq_true, decide_true, decide_false, Nat.reduceEqDiff, Nat.reduceAdd, Nat.reduceMul, Nat.reducePow, Int.reduceToNat, Int.reducePow, Nat.zero_add, Nat.mul_one, Int.toNat_natCast, R5_13, rxt, e2, e3, e9, bh, dfaC_0, dfaC_257 hd.cls, hcc]
  have husl : us.length = d.next.length := dh.next.len
  have hrul : d.rule.length = d.next.length := k3
  have hxl1 := ox.1
  obtain ⟨ha, eha, ga, na, ba⟩ := boxed hh [] 32
  rw [eha]
  have oa : OwnV ha 32 (.slice (some ⟨hh.next, 0, none⟩) 0 0) [] := by rw [← eha]; exact own_row (by omega) rfl
  have b_ha : ha.at h.next = some (.cells (dfaC d.start d.cls vn vr) 34 true) := by rw [ga.2 _ (by omega)]; exact bh
  obtain ⟨vw, hb, qw, ob, cb, fb⟩ := oa.appsc (ws := us) (bytes := 24) (by omega) (dh.next.sl.grow ga) (fun x hx => by
    obtain ⟨j, hj, e⟩ := List.getElem_of_mem hx
    have := (dh.next.row j (by omega)).isSl
    rw [List.getD_eq_getElem?_getD, List.getElem?_eq_getElem hj] at this
    rw [← e]; exact this) (by simp only [List.length_nil]; omega)
  rw [List.nil_append] at ob
  have nb := cb.next
  have ebz : bno (Value.slice (some ⟨hh.next, 0, none⟩) 0 0) = hh.next := rfl
  rw [ebz] at cb fb
  have b_hb : hb.at h.next = some (.cells (dfaC d.start d.cls vn vr) 34 true) := by rw [cb.at_ _ (by omega) (by omega)]; exact b_ha
  simp (maxSteps := 2000000) (disch := first | omega | assumption | (simp only [oneC_int, oneC_bool, oneC_str, oneC_ptr, oneC_sl, oneC_map]; done) | (simp only [List.length_cons, List.length_nil, List.length_set, List.length_map, List.length_replicate, List.length_append, List.length_take, List.length_drop, Int.toNat_natCast] <;> omega) | fail) only [Go.Rx.vi, Go.Rx.vb, Go.Rx.vstr, rxc, rxo, Nat.reduceLeDiff, List.getElem?_cons_zero, List.getElem?_cons_succ, List.length_cons, List.length_nil, List.set_cons_zero, List.set_cons_succ, ↓reduceIte, Bool.not_true, Bool.not_false, true_and, and_true, not_true_eq_false, not_false_eq_true, decide_true, decide_false, Nat.reduceEqDiff, Nat.reduceAdd, Nat.reduceMul, Nat.reducePow, Int.reduceToNat, Int.reducePow, Nat.zero_add, Nat.mul_one, Int.toNat_natCast, rxt, qw, e2, e3, e9, b_ha, b_hb, cellsN_one ox.sl.oneC]
  obtain ⟨vw2, hc, qw2, oc, cc, fc⟩ := ob.app1c (x := vx) (bytes := 24) (by omega) ox.sl.isSl (by omega)
  obtain ⟨hb1, ehb1, gb1, nb1, bb1⟩ := boxed hb [vx] 32
  rw [ehb1] at qw2
  have b_hb1 : hb1.at h.next = some (.cells (dfaC d.start d.cls vn vr) 34 true) := by rw [gb1.2 _ (by omega)]; exact b_hb
  have nc := cc.next
  have obl := ob.1
  have b_hc : hc.at h.next = some (.cells (dfaC d.start d.cls vn vr) 34 true) := by rw [cc.at_ _ (by omega) (by omega)]; exact b_hb
  obtain ⟨hd0, ehd, gd, nd, bd⟩ := boxed hc [] 3
  have b_hd0 : hd0.at h.next = some (.cells (dfaC d.start d.cls vn vr) 34 true) := by rw [gd.2 _ (by omega)]; exact b_hc
  have od : OwnV hd0 3 (.slice (some ⟨hc.next, 0, none⟩) 0 0) [] := by rw [← ehd]; exact own_row (by omega) rfl
  have gpd : GrowP hh hd0 := (((ga.p.chg cb (by omega)).chg cc (by omega))).trans gd.p
  obtain ⟨vy, he, qy, oe, ce, fe⟩ := od.appsc (ws := d.rule.map (.int .i64)) (bytes := 8) (by omega) (dh.rule.gp gpd) (fun x hx => by
    obtain ⟨j, _, rfl⟩ := List.mem_map.1 hx; rfl) (by simp only [List.length_nil, List.length_map]; omega)
  rw [List.nil_append] at oe
  have ne := ce.next
  have ecz : bno (Value.slice (some ⟨hc.next, 0, none⟩) 0 0) = hc.next := rfl
  rw [ecz] at ce fe
  have b_he : he.at h.next = some (.cells (dfaC d.start d.cls vn vr) 34 true) := by rw [ce.at_ _ (by omega) (by omega)]; exact b_hd0
  simp (maxSteps := 2000000) (disch := first | omega | assumption | (simp only [oneC_int, oneC_bool, oneC_str, oneC_ptr, oneC_sl, oneC_map]; done) | (simp only [List.length_cons, List.length_nil, List.length_set, List.length_map, List.length_replicate, List.length_append, List.length_take, List.length_drop, Int.toNat_natCast] <;> omega) | fail) only [Go.Rx.vi, Go.Rx.vb, Go.Rx.vstr, rxc, rxo, Nat.reduceLeDiff, List.getElem?_cons_zero, List.getElem?_cons_succ, List.length_cons, List.length_nil, List.set_cons_zero, List.set_cons_succ, ↓reduceIte, Bool.not_true, Bool.not_false, true_and, and_true, not_true_eq_false, not_false_eq_true, decide_true, decide_false, Nat.reduceEqDiff, Nat.reduceAdd, Nat.reduceMul, Nat.reducePow, Int.reduceToNat, Int.reducePow, Nat.zero_add, Nat.mul_one, Int.toNat_natCast, rxt, ehb1, qw2, ehd, b_hc, b_hd0, dfaC_258 hd.cls, qy, e2, e3, e9]
  obtain ⟨vy2, hf, qy2, of_, cf, ff⟩ := oe.app1c (x := .int .i64 rule) (bytes := 8) (by omega) rfl (by rw [List.length_map]; omega)
  obtain ⟨he1, ehe1, ge1, ne1, be1⟩ := boxed he [.int .i64 rule] 3
  rw [ehe1] at qy2
  have b_he1 : he1.at h.next = some (.cells (dfaC d.start d.cls vn vr) 34 true) := by rw [ge1.2 _ (by omega)]; exact b_he
  have nf := cf.next
  have oel := oe.1
  have b_hf : hf.at h.next = some (.cells (dfaC d.start d.cls vn vr) 34 true) := by rw [cf.at_ _ (by omega) (by omega)]; exact b_he
  obtain ⟨pl0, epl⟩ : ∃ pl0 : List Int, List.replicate 256 0 = pl0 := ⟨_, rfl⟩
  have hpl0 : pl0.length = 256 := by rw [← epl]; simp
  have z259 : ∀ x y z, (dfaC x pl0 y z).length = 259 := fun x y z => dfaC_len hpl0
  have hz : (dfaC d.start d.cls vw2 vy2).length = 259 := dfaC_len hd.cls
  have zone : allOne (dfaC d.start d.cls vw2 vy2) = true := allOne_dfaC oc.sl.isSl of_.sl.isSl
  have zne : dfaC d.start d.cls vw2 vy2 ≠ [] := fun e => by rw [e] at hz; simp at hz
  have hcl256 : (d.cls.map (Value.int .u8)).length = 256 := by rw [List.length_map]; exact hd.cls
  simp (maxSteps := 2000000) (disch := first | omega | assumption | (simp only [oneC_int, oneC_bool, oneC_str, oneC_ptr, oneC_sl, oneC_map]; done) | (simp only [List.length_cons, List.length_nil, List.length_set, List.length_map, List.length_replicate, List.length_append, List.length_take, List.length_drop, Int.toNat_natCast] <;> omega) | fail) only [Go.Rx.vi, Go.Rx.vb, Go.Rx.vstr, rxc, rxo, Nat.reduceLeDiff, List.getElem?_cons_zero, List.getElem?_cons_succ, List.length_cons, List.length_nil, List.set_cons_zero, List.set_cons_succ, ↓reduceIte, Bool.not_true, Bool.not_false, true_and, and_true, not_true_eq_false, not_false_eq_true, decide_true, decide_false, Nat.reduceEqDiff, Nat.reduceAdd, Nat.reduceMul, Nat.reducePow, Int.reduceToNat, Int.reducePow, Nat.zero_add, Nat.mul_one, Int.toNat_natCast, rxt, ehe1, qy2, dfa0, epl]
  simp (maxSteps := 2000000) (disch := first | omega | assumption | (simp only [oneC_int, oneC_bool, oneC_str, oneC_ptr, oneC_sl, oneC_map]; done) | (simp only [List.length_cons, List.length_nil, List.length_set, List.length_map, List.length_replicate, List.length_append, List.length_take, List.length_drop, Int.toNat_natCast] <;> omega) | fail) only [Go.Rx.vi, Go.Rx.vb, Go.Rx.vstr, rxc, rxo, Nat.reduceLeDiff, List.getElem?_cons_zero, List.getElem?_cons_succ, List.length_cons, List.length_nil, List.set_cons_zero, List.set_cons_succ, ↓reduceIte, Bool.not_true, Bool.not_false, true_and, and_true, not_true_eq_false, not_false_eq_true, decide_true, decide_false, Nat.reduceEqDiff, Nat.reduceAdd, Nat.reduceMul, Nat.reducePow, Int.reduceToNat, Int.reducePow, Nat.zero_add, Nat.mul_one, Int.toNat_natCast, rxt, z259, hz, hcl256, dfa_fill0 hpl0, dfa_fill1 hpl0 hd.cls, dfa_fill257 hd.cls, dfa_fill258 hd.cls, cellsN_one oc.sl.oneC, cellsN_one of_.sl.oneC]
  rw [stM_full zone zne (hz.trans (z259 _ _ _).symm)]
  obtain ⟨hg, ehg, gg, ng, bg⟩ := boxed hf (dfaC 0 pl0 (.slice none 0 0) (.slice none 0 0)) 34
  rw [ehg]
  have cg : Chg hf.next hg (hg.set hf.next (some (.cells (dfaC d.start d.cls vw2 vy2) 34 true))) := Chg.set
  have bg2 : (hg.set hf.next (some (.cells (dfaC d.start d.cls vw2 vy2) 34 true))).at hf.next = _ := at_set_same
  generalize hg.set hf.next (some (.cells (dfaC d.start d.cls vw2 vy2) 34 true)) = hs at cg bg2 ⊢
  simp (maxSteps := 2000000) (disch := first | omega | assumption | (simp only [oneC_int, oneC_bool, oneC_str, oneC_ptr, oneC_sl, oneC_map]; done) | (simp only [List.length_cons, List.length_nil, List.length_set, List.length_map, List.length_replicate, List.length_append, List.length_take, List.length_drop, Int.toNat_natCast] <;> omega) | fail) only [Go.Rx.vi, Go.Rx.vb, Go.Rx.vstr, rxc, rxo, Nat.reduceLeDiff, List.getElem?_cons_zero, List.getElem?_cons_succ, List.length_cons, List.length_nil, List.set_cons_zero, List.set_cons_succ, ↓reduceIte, Bool.not_true, Bool.not_false, true_and, and_true, not_true_eq_false, not_false_eq_true, decide_true, decide_false, Nat.reduceEqDiff, Nat.reduceAdd, Nat.reduceMul, Nat.reducePow, Int.reduceToNat, Int.reducePow, Nat.zero_add, Nat.mul_one, Int.toNat_natCast, rxt]
  refine ⟨?_, ?_⟩
  · simp only [List.cons_append, List.nil_append]
    refine staysAll_cons (h1 := ha) (h2 := hb) rfl rfl ?_ ?_ ?_
    · refine stays_on (v := .int .i64 d.start) (h' := ha) rfl ?_ ?_
      · simp (maxSteps := 2000000) (disch := first | omega | assumption | (simp only [oneC_int, oneC_bool, oneC_str, oneC_ptr, oneC_sl, oneC_map]; done) | (simp only [List.length_cons, List.length_nil, List.length_set, List.length_map, List.length_replicate, List.length_append, List.length_take, List.length_drop, Int.toNat_natCast] <;> omega) | fail) only [Go.Rx.vi, Go.Rx.vb, Go.Rx.vstr, rxc, rxo, Nat.reduceLeDiff, List.getElem?_cons_zero, List.getElem?_cons_succ, List.length_cons, List.length_nil, List.set_cons_zero, List.set_cons_succ, ↓reduceIte, Bool.not_true, Bool.not_false, true_and, and_true, not_true_eq_false, not_false_eq_true, decide_true, decide_false, Nat.reduceEqDiff, Nat.reduceAdd, Nat.reduceMul, Nat.reducePow, Int.reduceToNat, Int.reducePow, Nat.zero_add, Nat.mul_one, Int.toNat_natCast, b_ha, dfaC_0]
      · simp (maxSteps := 2000000) (disch := first | omega | assumption | (simp only [oneC_int, oneC_bool, oneC_str, oneC_ptr, oneC_sl, oneC_map]; done) | (simp only [List.length_cons, List.length_nil, List.length_set, List.length_map, List.length_replicate, List.length_append, List.length_take, List.length_drop, Int.toNat_natCast] <;> omega) | fail) only [Go.Rx.vi, Go.Rx.vb, Go.Rx.vstr, rxc, rxo, Nat.reduceLeDiff, List.getElem?_cons_zero, List.getElem?_cons_succ, List.length_cons, List.length_nil, List.set_cons_zero, List.set_cons_succ, ↓reduceIte, Bool.not_true, Bool.not_false, true_and, and_true, not_true_eq_false, not_false_eq_true, decide_true, decide_false, Nat.reduceEqDiff, Nat.reduceAdd, Nat.reduceMul, Nat.reducePow, Int.reduceToNat, Int.reducePow, Nat.zero_add, Nat.mul_one, Int.toNat_natCast, sameA_int]
    · refine stays_on (v := .int .i64 d.start) (h' := hb) rfl ?_ ?_
      · simp (maxSteps := 2000000) (disch := first | omega | assumption | (simp only [oneC_int, oneC_bool, oneC_str, oneC_ptr, oneC_sl, oneC_map]; done) | (simp only [List.length_cons, List.length_nil, List.length_set, List.length_map, List.length_replicate, List.length_append, List.length_take, List.length_drop, Int.toNat_natCast] <;> omega) | fail) only [Go.Rx.vi, Go.Rx.vb, Go.Rx.vstr, rxc, rxo, Nat.reduceLeDiff, List.getElem?_cons_zero, List.getElem?_cons_succ, List.length_cons, List.length_nil, List.set_cons_zero, List.set_cons_succ, ↓reduceIte, Bool.not_true, Bool.not_false, true_and, and_true, not_true_eq_false, not_false_eq_true, decide_true, decide_false, Nat.reduceEqDiff, Nat.reduceAdd, Nat.reduceMul, Nat.reducePow, Int.reduceToNat, Int.reducePow, Nat.zero_add, Nat.mul_one, Int.toNat_natCast, b_hb, dfaC_0]
      · simp (maxSteps := 2000000) (disch := first | omega | assumption | (simp only [oneC_int, oneC_bool, oneC_str, oneC_ptr, oneC_sl, oneC_map]; done) | (simp only [List.length_cons, List.length_nil, List.length_set, List.length_map, List.length_replicate, List.length_append, List.length_take, List.length_drop, Int.toNat_natCast] <;> omega) | fail) only [Go.Rx.vi, Go.Rx.vb, Go.Rx.vstr, rxc, rxo, Nat.reduceLeDiff, List.getElem?_cons_zero, List.getElem?_cons_succ, List.length_cons, List.length_nil, List.set_cons_zero, List.set_cons_succ, ↓reduceIte, Bool.not_true, Bool.not_false, true_and, and_true, not_true_eq_false, not_false_eq_true, decide_true, decide_false, Nat.reduceEqDiff, Nat.reduceAdd, Nat.reduceMul, Nat.reducePow, Int.reduceToNat, Int.reducePow, Nat.zero_add, Nat.mul_one, Int.toNat_natCast, sameA_int]
    refine staysAll_cons (h1 := ha) (h2 := hb) rfl rfl ?_ ?_ ?_
    · refine stays_on (v := .agg ⟨d.cls.map (.int .u8)⟩) (h' := ha) rfl ?_ ?_
      · simp (maxSteps := 2000000) (disch := first | omega | assumption | (simp only [oneC_int, oneC_bool, oneC_str, oneC_ptr, oneC_sl, oneC_map]; done) | (simp only [List.length_cons, List.length_nil, List.length_set, List.length_map, List.length_replicate, List.length_append, List.length_take, List.length_drop, Int.toNat_natCast] <;> omega) | fail) only [Go.Rx.vi, Go.Rx.vb, Go.Rx.vstr, rxc, rxo, Nat.reduceLeDiff, List.getElem?_cons_zero, List.getElem?_cons_succ, List.length_cons, List.length_nil, List.set_cons_zero, List.set_cons_succ, ↓reduceIte, Bool.not_true, Bool.not_false, true_and, and_true, not_true_eq_false, not_false_eq_true, decide_true, decide_false, Nat.reduceEqDiff, Nat.reduceAdd, Nat.reduceMul, Nat.reducePow, Int.reduceToNat, Int.reducePow, Nat.zero_add, Nat.mul_one, Int.toNat_natCast, b_ha, hcc]
      · simp (maxSteps := 2000000) (disch := first | omega | assumption | (simp only [oneC_int, oneC_bool, oneC_str, oneC_ptr, oneC_sl, oneC_map]; done) | (simp only [List.length_cons, List.length_nil, List.length_set, List.length_map, List.length_replicate, List.length_append, List.length_take, List.length_drop, Int.toNat_natCast] <;> omega) | fail) only [Go.Rx.vi, Go.Rx.vb, Go.Rx.vstr, rxc, rxo, Nat.reduceLeDiff, List.getElem?_cons_zero, List.getElem?_cons_succ, List.length_cons, List.length_nil, List.set_cons_zero, List.set_cons_succ, ↓reduceIte, Bool.not_true, Bool.not_false, true_and, and_true, not_true_eq_false, not_false_eq_true, decide_true, decide_false, Nat.reduceEqDiff, Nat.reduceAdd, Nat.reduceMul, Nat.reducePow, Int.reduceToNat, Int.reducePow, Nat.zero_add, Nat.mul_one, Int.toNat_natCast, sameA_ints]
    · refine stays_on (v := .agg ⟨d.cls.map (.int .u8)⟩) (h' := hb) rfl ?_ ?_
      · simp (maxSteps := 2000000) (disch := first | omega | assumption | (simp only [oneC_int, oneC_bool, oneC_str, oneC_ptr, oneC_sl, oneC_map]; done) | (simp only [List.length_cons, List.length_nil, List.length_set, List.length_map, List.length_replicate, List.length_append, List.length_take, List.length_drop, Int.toNat_natCast] <;> omega) | fail) only [Go.Rx.vi, Go.Rx.vb, Go.Rx.vstr, rxc, rxo, Nat.reduceLeDiff, List.getElem?_cons_zero, List.getElem?_cons_succ, List.length_cons, List.length_nil, List.set_cons_zero, List.set_cons_succ, ↓reduceIte, Bool.not_true, Bool.not_false, true_and, and_true, not_true_eq_false, not_false_eq_true, decide_true, decide_false, Nat.reduceEqDiff, Nat.reduceAdd, Nat.reduceMul, Nat.reducePow, Int.reduceToNat, Int.reducePow, Nat.zero_add, Nat.mul_one, Int.toNat_natCast, b_hb, hcc]
      · simp (maxSteps := 2000000) (disch := first | omega | assumption | (simp only [oneC_int, oneC_bool, oneC_str, oneC_ptr, oneC_sl, oneC_map]; done) | (simp only [List.length_cons, List.length_nil, List.length_set, List.length_map, List.length_replicate, List.length_append, List.length_take, List.length_drop, Int.toNat_natCast] <;> omega) | fail) only [Go.Rx.vi, Go.Rx.vb, Go.Rx.vstr, rxc, rxo, Nat.reduceLeDiff, List.getElem?_cons_zero, List.getElem?_cons_succ, List.length_cons, List.length_nil, List.set_cons_zero, List.set_cons_succ, ↓reduceIte, Bool.not_true, Bool.not_false, true_and, and_true, not_true_eq_false, not_false_eq_true, decide_true, decide_false, Nat.reduceEqDiff, Nat.reduceAdd, Nat.reduceMul, Nat.reducePow, Int.reduceToNat, Int.reducePow, Nat.zero_add, Nat.mul_one, Int.toNat_natCast, sameA_ints]
    refine staysAll_cons (h1 := hb1) (h2 := hc) rfl rfl ?_ ?_ ?_
    · refine stays_on (v := .int .i64 d.start) (h' := hb1) rfl ?_ ?_
      · simp (maxSteps := 2000000) (disch := first | omega | assumption | (simp only [oneC_int, oneC_bool, oneC_str, oneC_ptr, oneC_sl, oneC_map]; done) | (simp only [List.length_cons, List.length_nil, List.length_set, List.length_map, List.length_replicate, List.length_append, List.length_take, List.length_drop, Int.toNat_natCast] <;> omega) | fail) only [Go.Rx.vi, Go.Rx.vb, Go.Rx.vstr, rxc, rxo, Nat.reduceLeDiff, List.getElem?_cons_zero, List.getElem?_cons_succ, List.length_cons, List.length_nil, List.set_cons_zero, List.set_cons_succ, ↓reduceIte, Bool.not_true, Bool.not_false, true_and, and_true, not_true_eq_false, not_false_eq_true, decide_true, decide_false, Nat.reduceEqDiff, Nat.reduceAdd, Nat.reduceMul, Nat.reducePow, Int.reduceToNat, Int.reducePow, Nat.zero_add, Nat.mul_one, Int.toNat_natCast, b_hb1, dfaC_0]
      · simp (maxSteps := 2000000) (disch := first | omega | assumption | (simp only [oneC_int, oneC_bool, oneC_str, oneC_ptr, oneC_sl, oneC_map]; done) | (simp only [List.length_cons, List.length_nil, List.length_set, List.length_map, List.length_replicate, List.length_append, List.length_take, List.length_drop, Int.toNat_natCast] <;> omega) | fail) only [Go.Rx.vi, Go.Rx.vb, Go.Rx.vstr, rxc, rxo, Nat.reduceLeDiff, List.getElem?_cons_zero, List.getElem?_cons_succ, List.length_cons, List.length_nil, List.set_cons_zero, List.set_cons_succ, ↓reduceIte, Bool.not_true, Bool.not_false, true_and, and_true, not_true_eq_false, not_false_eq_true, decide_true, decide_false, Nat.reduceEqDiff, Nat.reduceAdd, Nat.reduceMul, Nat.reducePow, Int.reduceToNat, Int.reducePow, Nat.zero_add, Nat.mul_one, Int.toNat_natCast, sameA_int]
    · refine stays_on (v := .int .i64 d.start) (h' := hc) rfl ?_ ?_
      · simp (maxSteps := 2000000) (disch := first | omega | assumption | (simp only [oneC_int, oneC_bool, oneC_str, oneC_ptr, oneC_sl, oneC_map]; done) | (simp only [List.length_cons, List.length_nil, List.length_set, List.length_map, List.length_replicate, List.length_append, List.length_take, List.length_drop, Int.toNat_natCast] <;> omega) | fail) only [Go.Rx.vi, Go.Rx.vb, Go.Rx.vstr, rxc, rxo, Nat.reduceLeDiff, List.getElem?_cons_zero, List.getElem?_cons_succ, List.length_cons, List.length_nil, List.set_cons_zero, List.set_cons_succ, ↓reduceIte, Bool.not_true, Bool.not_false, true_and, and_true, not_true_eq_false, not_false_eq_true, decide_true, decide_false, Nat.reduceEqDiff, Nat.reduceAdd, Nat.reduceMul, Nat.reducePow, Int.reduceToNat, Int.reducePow, Nat.zero_add, Nat.mul_one, Int.toNat_natCast, b_hc, dfaC_0]
      · simp (maxSteps := 2000000) (disch := first | omega | assumption | (simp only [oneC_int, oneC_bool, oneC_str, oneC_ptr, oneC_sl, oneC_map]; done) | (simp only [List.length_cons, List.length_nil, List.length_set, List.length_map, List.length_replicate, List.length_append, List.length_take, List.length_drop, Int.toNat_natCast] <;> omega) | fail) only [Go.Rx.vi, Go.Rx.vb, Go.Rx.vstr, rxc, rxo, Nat.reduceLeDiff, List.getElem?_cons_zero, List.getElem?_cons_succ, List.length_cons, List.length_nil, List.set_cons_zero, List.set_cons_succ, ↓reduceIte, Bool.not_true, Bool.not_false, true_and, and_true, not_true_eq_false, not_false_eq_true, decide_true, decide_false, Nat.reduceEqDiff, Nat.reduceAdd, Nat.reduceMul, Nat.reducePow, Int.reduceToNat, Int.reducePow, Nat.zero_add, Nat.mul_one, Int.toNat_natCast, sameA_int]
    refine staysAll_cons (h1 := hb1) (h2 := hc) rfl rfl ?_ ?_ ?_
    · refine stays_on (v := .agg ⟨d.cls.map (.int .u8)⟩) (h' := hb1) rfl ?_ ?_
      · simp (maxSteps := 2000000) (disch := first | omega | assumption | (simp only [oneC_int, oneC_bool, oneC_str, oneC_ptr, oneC_sl, oneC_map]; done) | (simp only [List.length_cons, List.length_nil, List.length_set, List.length_map, List.length_replicate, List.length_append, List.length_take, List.length_drop, Int.toNat_natCast] <;> omega) | fail) only [Go.Rx.vi, Go.Rx.vb, Go.Rx.vstr, rxc, rxo, Nat.reduceLeDiff, List.getElem?_cons_zero, List.getElem?_cons_succ, List.length_cons, List.length_nil, List.set_cons_zero, List.set_cons_succ, ↓reduceIte, Bool.not_true, Bool.not_false, true_and, and_true, not_true_eq_false, not_false_eq_true, decide_true, decide_false, Nat.reduceEqDiff, Nat.reduceAdd, Nat.reduceMul, Nat.reducePow, Int.reduceToNat, Int.reducePow, Nat.zero_add, Nat.mul_one, Int.toNat_natCast, b_hb1, hcc]
      · simp (maxSteps := 2000000) (disch := first | omega | assumption | (simp only [oneC_int, oneC_bool, oneC_str, oneC_ptr, oneC_sl, oneC_map]; done) | (simp only [List.length_cons, List.length_nil, List.length_set, List.length_map, List.length_replicate, List.length_append, List.length_take, List.length_drop, Int.toNat_natCast] <;> omega) | fail) only [Go.Rx.vi, Go.Rx.vb, Go.Rx.vstr, rxc, rxo, Nat.reduceLeDiff, List.getElem?_cons_zero, List.getElem?_cons_succ, List.length_cons, List.length_nil, List.set_cons_zero, List.set_cons_succ, ↓reduceIte, Bool.not_true, Bool.not_false, true_and, and_true, not_true_eq_false, not_false_eq_true, decide_true, decide_false, Nat.reduceEqDiff, Nat.reduceAdd, Nat.reduceMul, Nat.reducePow, Int.reduceToNat, Int.reducePow, Nat.zero_add, Nat.mul_one, Int.toNat_natCast, sameA_ints]
    · refine stays_on (v := .agg ⟨d.cls.map (.int .u8)⟩) (h' := hc) rfl ?_ ?_
      · simp (maxSteps := 2000000) (disch := first | omega | assumption | (simp only [oneC_int, oneC_bool, oneC_str, oneC_ptr, oneC_sl, oneC_map]; done) | (simp only [List.length_cons, List.length_nil, List.length_set, List.length_map, List.length_replicate, List.length_append, List.length_take, List.length_drop, Int.toNat_natCast] <;> omega) | fail) only [Go.Rx.vi, Go.Rx.vb, Go.Rx.vstr, rxc, rxo, Nat.reduceLeDiff, List.getElem?_cons_zero, List.getElem?_cons_succ, List.length_cons, List.length_nil, List.set_cons_zero, List.set_cons_succ, ↓reduceIte, Bool.not_true, Bool.not_false, true_and, and_true, not_true_eq_false, not_false_eq_true, decide_true, decide_false, Nat.reduceEqDiff, Nat.reduceAdd, Nat.reduceMul, Nat.reducePow, Int.reduceToNat, Int.reducePow, Nat.zero_add, Nat.mul_one, Int.toNat_natCast, b_hc, hcc]
      · simp (maxSteps := 2000000) (disch := first | omega | assumption | (simp only [oneC_int, oneC_bool, oneC_str, oneC_ptr, oneC_sl, oneC_map]; done) | (simp only [List.length_cons, List.length_nil, List.length_set, List.length_map, List.length_replicate, List.length_append, List.length_take, List.length_drop, Int.toNat_natCast] <;> omega) | fail) only [Go.Rx.vi, Go.Rx.vb, Go.Rx.vstr, rxc, rxo, Nat.reduceLeDiff, List.getElem?_cons_zero, List.getElem?_cons_succ, List.length_cons, List.length_nil, List.set_cons_zero, List.set_cons_succ, ↓reduceIte, Bool.not_true, Bool.not_false, true_and, and_true, not_true_eq_false, not_false_eq_true, decide_true, decide_false, Nat.reduceEqDiff, Nat.reduceAdd, Nat.reduceMul, Nat.reducePow, Int.reduceToNat, Int.reducePow, Nat.zero_add, Nat.mul_one, Int.toNat_natCast, sameA_ints]
    refine staysAll_cons (h1 := ha) (h2 := hb) rfl rfl ?_ ?_ ?_
    · refine stays_on (v := vr) (h' := ha) rfl ?_ ?_
      · simp (maxSteps := 2000000) (disch := first | omega | assumption | (simp only [oneC_int, oneC_bool, oneC_str, oneC_ptr, oneC_sl, oneC_map]; done) | (simp only [List.length_cons, List.length_nil, List.length_set, List.length_map, List.length_replicate, List.length_append, List.length_take, List.length_drop, Int.toNat_natCast] <;> omega) | fail) only [Go.Rx.vi, Go.Rx.vb, Go.Rx.vstr, rxc, rxo, Nat.reduceLeDiff, List.getElem?_cons_zero, List.getElem?_cons_succ, List.length_cons, List.length_nil, List.set_cons_zero, List.set_cons_succ, ↓reduceIte, Bool.not_true, Bool.not_false, true_and, and_true, not_true_eq_false, not_false_eq_true, decide_true, decide_false, Nat.reduceEqDiff, Nat.reduceAdd, Nat.reduceMul, Nat.reducePow, Int.reduceToNat, Int.reducePow, Nat.zero_add, Nat.mul_one, Int.toNat_natCast, b_ha, dfaC_258 hd.cls]
      · simp (maxSteps := 2000000) (disch := first | omega | assumption | (simp only [oneC_int, oneC_bool, oneC_str, oneC_ptr, oneC_sl, oneC_map]; done) | (simp only [List.length_cons, List.length_nil, List.length_set, List.length_map, List.length_replicate, List.length_append, List.length_take, List.length_drop, Int.toNat_natCast] <;> omega) | fail) only [Go.Rx.vi, Go.Rx.vb, Go.Rx.vstr, rxc, rxo, Nat.reduceLeDiff, List.getElem?_cons_zero, List.getElem?_cons_succ, List.length_cons, List.length_nil, List.set_cons_zero, List.set_cons_succ, ↓reduceIte, Bool.not_true, Bool.not_false, true_and, and_true, not_true_eq_false, not_false_eq_true, decide_true, decide_false, Nat.reduceEqDiff, Nat.reduceAdd, Nat.reduceMul, Nat.reducePow, Int.reduceToNat, Int.reducePow, Nat.zero_add, Nat.mul_one, Int.toNat_natCast, sameA_sl dh.rule]
    · refine stays_on (v := vr) (h' := hb) rfl ?_ ?_
      · simp (maxSteps := 2000000) (disch := first | omega | assumption | (simp only [oneC_int, oneC_bool, oneC_str, oneC_ptr, oneC_sl, oneC_map]; done) | (simp only [List.length_cons, List.length_nil, List.length_set, List.length_map, List.length_replicate, List.length_append, List.length_take, List.length_drop, Int.toNat_natCast] <;> omega) | fail) only [Go.Rx.vi, Go.Rx.vb, Go.Rx.vstr, rxc, rxo, Nat.reduceLeDiff, List.getElem?_cons_zero, List.getElem?_cons_succ, List.length_cons, List.length_nil, List.set_cons_zero, List.set_cons_succ, ↓reduceIte, Bool.not_true, Bool.not_false, true_and, and_true, not_true_eq_false, not_false_eq_true, decide_true, decide_false, Nat.reduceEqDiff, Nat.reduceAdd, Nat.reduceMul, Nat.reducePow, Int.reduceToNat, Int.reducePow, Nat.zero_add, Nat.mul_one, Int.toNat_natCast, b_hb, dfaC_258 hd.cls]
      · simp (maxSteps := 2000000) (disch := first | omega | assumption | (simp only [oneC_int, oneC_bool, oneC_str, oneC_ptr, oneC_sl, oneC_map]; done) | (simp only [List.length_cons, List.length_nil, List.length_set, List.length_map, List.length_replicate, List.length_append, List.length_take, List.length_drop, Int.toNat_natCast] <;> omega) | fail) only [Go.Rx.vi, Go.Rx.vb, Go.Rx.vstr, rxc, rxo, Nat.reduceLeDiff, List.getElem?_cons_zero, List.getElem?_cons_succ, List.length_cons, List.length_nil, List.set_cons_zero, List.set_cons_succ, ↓reduceIte, Bool.not_true, Bool.not_false, true_and, and_true, not_true_eq_false, not_false_eq_true, decide_true, decide_false, Nat.reduceEqDiff, Nat.reduceAdd, Nat.reduceMul, Nat.reducePow, Int.reduceToNat, Int.reducePow, Nat.zero_add, Nat.mul_one, Int.toNat_natCast, sameA_sl dh.rule]
    refine staysAll_cons (h1 := hb1) (h2 := hc) rfl rfl ?_ ?_ ?_
    · refine stays_on (v := vr) (h' := hb1) rfl ?_ ?_
      · simp (maxSteps := 2000000) (disch := first | omega | assumption | (simp only [oneC_int, oneC_bool, oneC_str, oneC_ptr, oneC_sl, oneC_map]; done) | (simp only [List.length_cons, List.length_nil, List.length_set, List.length_map, List.length_replicate, List.length_append, List.length_take, List.length_drop, Int.toNat_natCast] <;> omega) | fail) only [Go.Rx.vi, Go.Rx.vb, Go.Rx.vstr, rxc, rxo, Nat.reduceLeDiff, List.getElem?_cons_zero, List.getElem?_cons_succ, List.length_cons, List.length_nil, List.set_cons_zero, List.set_cons_succ, ↓reduceIte, Bool.not_true, Bool.not_false, true_and, and_true, not_true_eq_false, not_false_eq_true, decide_true, decide_false, Nat.reduceEqDiff, Nat.reduceAdd, Nat.reduceMul, Nat.reducePow, Int.reduceToNat, Int.reducePow, Nat.zero_add, Nat.mul_one, Int.toNat_natCast, b_hb1, dfaC_258 hd.cls]
      · simp (maxSteps := 2000000) (disch := first | omega | assumption | (simp only [oneC_int, oneC_bool, oneC_str, oneC_ptr, oneC_sl, oneC_map]; done) | (simp only [List.length_cons, List.length_nil, List.length_set, List.length_map, List.length_replicate, List.length_append, List.length_take, List.length_drop, Int.toNat_natCast] <;> omega) | fail) only [Go.Rx.vi, Go.Rx.vb, Go.Rx.vstr, rxc, rxo, Nat.reduceLeDiff, List.getElem?_cons_zero, List.getElem?_cons_succ, List.length_cons, List.length_nil, List.set_cons_zero, List.set_cons_succ, ↓reduceIte, Bool.not_true, Bool.not_false, true_and, and_true, not_true_eq_false, not_false_eq_true, decide_true, decide_false, Nat.reduceEqDiff, Nat.reduceAdd, Nat.reduceMul, Nat.reducePow, Int.reduceToNat, Int.reducePow, Nat.zero_add, Nat.mul_one, Int.toNat_natCast, sameA_sl dh.rule]
    · refine stays_on (v := vr) (h' := hc) rfl ?_ ?_
      · simp (maxSteps := 2000000) (disch := first | omega | assumption | (simp only [oneC_int, oneC_bool, oneC_str, oneC_ptr, oneC_sl, oneC_map]; done) | (simp only [List.length_cons, List.length_nil, List.length_set, List.length_map, List.length_replicate, List.length_append, List.length_take, List.length_drop, Int.toNat_natCast] <;> omega) | fail) only [Go.Rx.vi, Go.Rx.vb, Go.Rx.vstr, rxc, rxo, Nat.reduceLeDiff, List.getElem?_cons_zero, List.getElem?_cons_succ, List.length_cons, List.length_nil, List.set_cons_zero, List.set_cons_succ, ↓reduceIte, Bool.not_true, Bool.not_false, true_and, and_true, not_true_eq_false, not_false_eq_true, decide_true, decide_false, Nat.reduceEqDiff, Nat.reduceAdd, Nat.reduceMul, Nat.reducePow, Int.reduceToNat, Int.reducePow, Nat.zero_add, Nat.mul_one, Int.toNat_natCast, b_hc, dfaC_258 hd.cls]
      · simp (maxSteps := 2000000) (disch := first | omega | assumption | (simp only [oneC_int, oneC_bool, oneC_str, oneC_ptr, oneC_sl, oneC_map]; done) | (simp only [List.length_cons, List.length_nil, List.length_set, List.length_map, List.length_replicate, List.length_append, List.length_take, List.length_drop, Int.toNat_natCast] <;> omega) | fail) only [Go.Rx.vi, Go.Rx.vb, Go.Rx.vstr, rxc, rxo, Nat.reduceLeDiff, List.getElem?_cons_zero, List.getElem?_cons_succ, List.length_cons, List.length_nil, List.set_cons_zero, List.set_cons_succ, ↓reduceIte, Bool.not_true, Bool.not_false, true_and, and_true, not_true_eq_false, not_false_eq_true, decide_true, decide_false, Nat.reduceEqDiff, Nat.reduceAdd, Nat.reduceMul, Nat.reducePow, Int.reduceToNat, Int.reducePow, Nat.zero_add, Nat.mul_one, Int.toNat_natCast, sameA_sl dh.rule]
    refine staysAll_cons (h1 := hd0) (h2 := he) rfl rfl ?_ ?_ ?_
    · refine stays_on (v := .int .i64 d.start) (h' := hd0) rfl ?_ ?_
      · simp (maxSteps := 2000000) (disch := first | omega | assumption | (simp only [oneC_int, oneC_bool, oneC_str, oneC_ptr, oneC_sl, oneC_map]; done) | (simp only [List.length_cons, List.length_nil, List.length_set, List.length_map, List.length_replicate, List.length_append, List.length_take, List.length_drop, Int.toNat_natCast] <;> omega) | fail) only [Go.Rx.vi, Go.Rx.vb, Go.Rx.vstr, rxc, rxo, Nat.reduceLeDiff, List.getElem?_cons_zero, List.getElem?_cons_succ, List.length_cons, List.length_nil, List.set_cons_zero, List.set_cons_succ, ↓reduceIte, Bool.not_true, Bool.not_false, true_and, and_true, not_true_eq_false, not_false_eq_true, decide_true, decide_false, Nat.reduceEqDiff, Nat.reduceAdd, Nat.reduceMul, Nat.reducePow, Int.reduceToNat, Int.reducePow, Nat.zero_add, Nat.mul_one, Int.toNat_natCast, b_hd0, dfaC_0]
      · simp (maxSteps := 2000000) (disch := first | omega | assumption | (simp only [oneC_int, oneC_bool, oneC_str, oneC_ptr, oneC_sl, oneC_map]; done) | (simp only [List.length_cons, List.length_nil, List.length_set, List.length_map, List.length_replicate, List.length_append, List.length_take, List.length_drop, Int.toNat_natCast] <;> omega) | fail) only [Go.Rx.vi, Go.Rx.vb, Go.Rx.vstr, rxc, rxo, Nat.reduceLeDiff, List.getElem?_cons_zero, List.getElem?_cons_succ, List.length_cons, List.length_nil, List.set_cons_zero, List.set_cons_succ, ↓reduceIte, Bool.not_true, Bool.not_false, true_and, and_true, not_true_eq_false, not_false_eq_true, decide_true, decide_false, Nat.reduceEqDiff, Nat.reduceAdd, Nat.reduceMul, Nat.reducePow, Int.reduceToNat, Int.reducePow, Nat.zero_add, Nat.mul_one, Int.toNat_natCast, sameA_int]
    · refine stays_on (v := .int .i64 d.start) (h' := he) rfl ?_ ?_
      · simp (maxSteps := 2000000) (disch := first | omega | assumption | (simp only [oneC_int, oneC_bool, oneC_str, oneC_ptr, oneC_sl, oneC_map]; done) | (simp only [List.length_cons, List.length_nil, List.length_set, List.length_map, List.length_replicate, List.length_append, List.length_take, List.length_drop, Int.toNat_natCast] <;> omega) | fail) only [Go.Rx.vi, Go.Rx.vb, Go.Rx.vstr, rxc, rxo, Nat.reduceLeDiff, List.getElem?_cons_zero, List.getElem?_cons_succ, List.length_cons, List.length_nil, List.set_cons_zero, List.set_cons_succ, ↓reduceIte, Bool.not_true, Bool.not_false, true_and, and_true, not_true_eq_false, not_false_eq_true, decide_true, decide_false, Nat.reduceEqDiff, Nat.reduceAdd, Nat.reduceMul, Nat.reducePow, Int.reduceToNat, Int.reducePow, Nat.zero_add, Nat.mul_one, Int.toNat_natCast, b_he, dfaC_0]
      · simp (maxSteps := 2000000) (disch := first | omega | assumption | (simp only [oneC_int, oneC_bool, oneC_str, oneC_ptr, oneC_sl, oneC_map]; done) | (simp only [List.length_cons, List.length_nil, List.length_set, List.length_map, List.length_replicate, List.length_append, List.length_take, List.length_drop, Int.toNat_natCast] <;> omega) | fail) only [Go.Rx.vi, Go.Rx.vb, Go.Rx.vstr, rxc, rxo, Nat.reduceLeDiff, List.getElem?_cons_zero, List.getElem?_cons_succ, List.length_cons, List.length_nil, List.set_cons_zero, List.set_cons_succ, ↓reduceIte, Bool.not_true, Bool.not_false, true_and, and_true, not_true_eq_false, not_false_eq_true, decide_true, decide_false, Nat.reduceEqDiff, Nat.reduceAdd, Nat.reduceMul, Nat.reducePow, Int.reduceToNat, Int.reducePow, Nat.zero_add, Nat.mul_one, Int.toNat_natCast, sameA_int]
    refine staysAll_cons (h1 := hd0) (h2 := he) rfl rfl ?_ ?_ ?_
    · refine stays_on (v := .agg ⟨d.cls.map (.int .u8)⟩) (h' := hd0) rfl ?_ ?_
      · simp (maxSteps := 2000000) (disch := first | omega | assumption | (simp only [oneC_int, oneC_bool, oneC_str, oneC_ptr, oneC_sl, oneC_map]; done) | (simp only [List.length_cons, List.length_nil, List.length_set, List.length_map, List.length_replicate, List.length_append, List.length_take, List.length_drop, Int.toNat_natCast] <;> omega) | fail) only [Go.Rx.vi, Go.Rx.vb, Go.Rx.vstr, rxc, rxo, Nat.reduceLeDiff, List.getElem?_cons_zero, List.getElem?_cons_succ, List.length_cons, List.length_nil, List.set_cons_zero, List.set_cons_succ, ↓reduceIte, Bool.not_true, Bool.not_false, true_and, and_true, not_true_eq_false, not_false_eq_true, decide_true, decide_false, Nat.reduceEqDiff, Nat.reduceAdd, Nat.reduceMul, Nat.reducePow, Int.reduceToNat, Int.reducePow, Nat.zero_add, Nat.mul_one, Int.toNat_natCast, b_hd0, hcc]
      · simp (maxSteps := 2000000) (disch := first | omega | assumption | (simp only [oneC_int, oneC_bool, oneC_str, oneC_ptr, oneC_sl, oneC_map]; done) | (simp only [List.length_cons, List.length_nil, List.length_set, List.length_map, List.length_replicate, List.length_append, List.length_take, List.length_drop, Int.toNat_natCast] <;> omega) | fail) only [Go.Rx.vi, Go.Rx.vb, Go.Rx.vstr, rxc, rxo, Nat.reduceLeDiff, List.getElem?_cons_zero, List.getElem?_cons_succ, List.length_cons, List.length_nil, List.set_cons_zero, List.set_cons_succ, ↓reduceIte, Bool.not_true, Bool.not_false, true_and, and_true, not_true_eq_false, not_false_eq_true, decide_true, decide_false, Nat.reduceEqDiff, Nat.reduceAdd, Nat.reduceMul, Nat.reducePow, Int.reduceToNat, Int.reducePow, Nat.zero_add, Nat.mul_one, Int.toNat_natCast, sameA_ints]
    · refine stays_on (v := .agg ⟨d.cls.map (.int .u8)⟩) (h' := he) rfl ?_ ?_
      · simp (maxSteps := 2000000) (disch := first | omega | assumption | (simp only [oneC_int, oneC_bool, oneC_str, oneC_ptr, oneC_sl, oneC_map]; done) | (simp only [List.length_cons, List.length_nil, List.length_set, List.length_map, List.length_replicate, List.length_append, List.length_take, List.length_drop, Int.toNat_natCast] <;> omega) | fail) only [Go.Rx.vi, Go.Rx.vb, Go.Rx.vstr, rxc, rxo, Nat.reduceLeDiff, List.getElem?_cons_zero, List.getElem?_cons_succ, List.length_cons, List.length_nil, List.set_cons_zero, List.set_cons_succ, ↓reduceIte, Bool.not_true, Bool.not_false, true_and, and_true, not_true_eq_false, not_false_eq_true, decide_true, decide_false, Nat.reduceEqDiff, Nat.reduceAdd, Nat.reduceMul, Nat.reducePow, Int.reduceToNat, Int.reducePow, Nat.zero_add, Nat.mul_one, Int.toNat_natCast, b_he, hcc]
      · simp (maxSteps := 2000000) (disch := first | omega | assumption | (simp only [oneC_int, oneC_bool, oneC_str, oneC_ptr, oneC_sl, oneC_map]; done) | (simp only [List.length_cons, List.length_nil, List.length_set, List.length_map, List.length_replicate, List.length_append, List.length_take, List.length_drop, Int.toNat_natCast] <;> omega) | fail) only [Go.Rx.vi, Go.Rx.vb, Go.Rx.vstr, rxc, rxo, Nat.reduceLeDiff, List.getElem?_cons_zero, List.getElem?_cons_succ, List.length_cons, List.length_nil, List.set_cons_zero, List.set_cons_succ, ↓reduceIte, Bool.not_true, Bool.not_false, true_and, and_true, not_true_eq_false, not_false_eq_true, decide_true, decide_false, Nat.reduceEqDiff, Nat.reduceAdd, Nat.reduceMul, Nat.reducePow, Int.reduceToNat, Int.reducePow, Nat.zero_add, Nat.mul_one, Int.toNat_natCast, sameA_ints]
    refine staysAll_cons (h1 := he1) (h2 := hf) rfl rfl ?_ ?_ ?_
    · refine stays_on (v := .int .i64 d.start) (h' := he1) rfl ?_ ?_
      · simp (maxSteps := 2000000) (disch := first | omega | assumption | (simp only [oneC_int, oneC_bool, oneC_str, oneC_ptr, oneC_sl, oneC_map]; done) | (simp only [List.length_cons, List.length_nil, List.length_set, List.length_map, List.length_replicate, List.length_append, List.length_take, List.length_drop, Int.toNat_natCast] <;> omega) | fail) only [Go.Rx.vi, Go.Rx.vb, Go.Rx.vstr, rxc, rxo, Nat.reduceLeDiff, List.getElem?_cons_zero, List.getElem?_cons_succ, List.length_cons, List.length_nil, List.set_cons_zero, List.set_cons_succ, ↓reduceIte, Bool.not_true, Bool.not_false, true_and, and_true, not_true_eq_false, not_false_eq_true, decide_true, decide_false, Nat.reduceEqDiff, Nat.reduceAdd, Nat.reduceMul, Nat.reducePow, Int.reduceToNat, Int.reducePow, Nat.zero_add, Nat.mul_one, Int.toNat_natCast, b_he1, dfaC_0]
      · simp (maxSteps := 2000000) (disch := first | omega | assumption | (simp only [oneC_int, oneC_bool, oneC_str, oneC_ptr, oneC_sl, oneC_map]; done) | (simp only [List.length_cons, List.length_nil, List.length_set, List.length_map, List.length_replicate, List.length_append, List.length_take, List.length_drop, Int.toNat_natCast] <;> omega) | fail) only [Go.Rx.vi, Go.Rx.vb, Go.Rx.vstr, rxc, rxo, Nat.reduceLeDiff, List.getElem?_cons_zero, List.getElem?_cons_succ, List.length_cons, List.length_nil, List.set_cons_zero, List.set_cons_succ, ↓reduceIte, Bool.not_true, Bool.not_false, true_and, and_true, not_true_eq_false, not_false_eq_true, decide_true, decide_false, Nat.reduceEqDiff, Nat.reduceAdd, Nat.reduceMul, Nat.reducePow, Int.reduceToNat, Int.reducePow, Nat.zero_add, Nat.mul_one, Int.toNat_natCast, sameA_int]
    · refine stays_on (v := .int .i64 d.start) (h' := hf) rfl ?_ ?_
      · simp (maxSteps := 2000000) (disch := first | omega | assumption | (simp only [oneC_int, oneC_bool, oneC_str, oneC_ptr, oneC_sl, oneC_map]; done) | (simp only [List.length_cons, List.length_nil, List.length_set, List.length_map, List.length_replicate, List.length_append, List.length_take, List.length_drop, Int.toNat_natCast] <;> omega) | fail) only [Go.Rx.vi, Go.Rx.vb, Go.Rx.vstr, rxc, rxo, Nat.reduceLeDiff, List.getElem?_cons_zero, List.getElem?_cons_succ, List.length_cons, List.length_nil, List.set_cons_zero, List.set_cons_succ, ↓reduceIte, Bool.not_true, Bool.not_false, true_and, and_true, not_true_eq_false, not_false_eq_true, decide_true, decide_false, Nat.reduceEqDiff, Nat.reduceAdd, Nat.reduceMul, Nat.reducePow, Int.reduceToNat, Int.reducePow, Nat.zero_add, Nat.mul_one, Int.toNat_natCast, b_hf, dfaC_0]
      · simp (maxSteps := 2000000) (disch := first | omega | assumption | (simp only [oneC_int, oneC_bool, oneC_str, oneC_ptr, oneC_sl, oneC_map]; done) | (simp only [List.length_cons, List.length_nil, List.length_set, List.length_map, List.length_replicate, List.length_append, List.length_take, List.length_drop, Int.toNat_natCast] <;> omega) | fail) only [Go.Rx.vi, Go.Rx.vb, Go.Rx.vstr, rxc, rxo, Nat.reduceLeDiff, List.getElem?_cons_zero, List.getElem?_cons_succ, List.length_cons, List.length_nil, List.set_cons_zero, List.set_cons_succ, ↓reduceIte, Bool.not_true, Bool.not_false, true_and, and_true, not_true_eq_false, not_false_eq_true, decide_true, decide_false, Nat.reduceEqDiff, Nat.reduceAdd, Nat.reduceMul, Nat.reducePow, Int.reduceToNat, Int.reducePow, Nat.zero_add, Nat.mul_one, Int.toNat_natCast, sameA_int]
    refine staysAll_cons (h1 := he1) (h2 := hf) rfl rfl ?_ ?_ ?_
    · refine stays_on (v := .agg ⟨d.cls.map (.int .u8)⟩) (h' := he1) rfl ?_ ?_
      · simp (maxSteps := 2000000) (disch := first | omega | assumption | (simp only [oneC_int, oneC_bool, oneC_str, oneC_ptr, oneC_sl, oneC_map]; done) | (simp only [List.length_cons, List.length_nil, List.length_set, List.length_map, List.length_replicate, List.length_append, List.length_take, List.length_drop, Int.toNat_natCast] <;> omega) | fail) only [Go.Rx.vi, Go.Rx.vb, Go.Rx.vstr, rxc, rxo, Nat.reduceLeDiff, List.getElem?_cons_zero, List.getElem?_cons_succ, List.length_cons, List.length_nil, List.set_cons_zero, List.set_cons_succ, ↓reduceIte, Bool.not_true, Bool.not_false, true_and, and_true, not_true_eq_false, not_false_eq_true, decide_true, decide_false, Nat.reduceEqDiff, Nat.reduceAdd, Nat.reduceMul, Nat.reducePow, Int.reduceToNat, Int.reducePow, Nat.zero_add, Nat.mul_one, Int.toNat_natCast, b_he1, hcc]
      · simp (maxSteps := 2000000) (disch := first | omega | assumption | (simp only [oneC_int, oneC_bool, oneC_str, oneC_ptr, oneC_sl, oneC_map]; done) | (simp only [List.length_cons, List.length_nil, List.length_set, List.length_map, List.length_replicate, List.length_append, List.length_take, List.length_drop, Int.toNat_natCast] <;> omega) | fail) only [Go.Rx.vi, Go.Rx.vb, Go.Rx.vstr, rxc, rxo, Nat.reduceLeDiff, List.getElem?_cons_zero, List.getElem?_cons_succ, List.length_cons, List.length_nil, List.set_cons_zero, List.set_cons_succ, ↓reduceIte, Bool.not_true, Bool.not_false, true_and, and_true, not_true_eq_false, not_false_eq_true, decide_true, decide_false, Nat.reduceEqDiff, Nat.reduceAdd, Nat.reduceMul, Nat.reducePow, Int.reduceToNat, Int.reducePow, Nat.zero_add, Nat.mul_one, Int.toNat_natCast, sameA_ints]
    · refine stays_on (v := .agg ⟨d.cls.map (.int .u8)⟩) (h' := hf) rfl ?_ ?_
      · simp (maxSteps := 2000000) (disch := first | omega | assumption | (simp only [oneC_int, oneC_bool, oneC_str, oneC_ptr, oneC_sl, oneC_map]; done) | (simp only [List.length_cons, List.length_nil, List.length_set, List.length_map, List.length_replicate, List.length_append, List.length_take, List.length_drop, Int.toNat_natCast] <;> omega) | fail) only [Go.Rx.vi, Go.Rx.vb, Go.Rx.vstr, rxc, rxo, Nat.reduceLeDiff, List.getElem?_cons_zero, List.getElem?_cons_succ, List.length_cons, List.length_nil, List.set_cons_zero, List.set_cons_succ, ↓reduceIte, Bool.not_true, Bool.not_false, true_and, and_true, not_true_eq_false, not_false_eq_true, decide_true, decide_false, Nat.reduceEqDiff, Nat.reduceAdd, Nat.reduceMul, Nat.reducePow, Int.reduceToNat, Int.reducePow, Nat.zero_add, Nat.mul_one, Int.toNat_natCast, b_hf, hcc]
      · simp (maxSteps := 2000000) (disch := first | omega | assumption | (simp only [oneC_int, oneC_bool, oneC_str, oneC_ptr, oneC_sl, oneC_map]; done) | (simp only [List.length_cons, List.length_nil, List.length_set, List.length_map, List.length_replicate, List.length_append, List.length_take, List.length_drop, Int.toNat_natCast] <;> omega) | fail) only [Go.Rx.vi, Go.Rx.vb, Go.Rx.vstr, rxc, rxo, Nat.reduceLeDiff, List.getElem?_cons_zero, List.getElem?_cons_succ, List.length_cons, List.length_nil, List.set_cons_zero, List.set_cons_succ, ↓reduceIte, Bool.not_true, Bool.not_false, true_and, and_true, not_true_eq_false, not_false_eq_true, decide_true, decide_false, Nat.reduceEqDiff, Nat.reduceAdd, Nat.reduceMul, Nat.reducePow, Int.reduceToNat, Int.reducePow, Nat.zero_add, Nat.mul_one, Int.toNat_natCast, sameA_ints]
    rfl
  have ns := cg.next
  have fy : hc.next ≤ bno vy := by omega
  have g1s : GrowP hf hs := gg.p.chg cg (by omega)
  have gcs : GrowP hc hs := ((gd.p.chg ce (by omega)).chg cf (by omega)).trans g1s
  have ghs : GrowP hh hs := ((ga.p.chg cb (by omega)).chg cc (by omega)).trans gcs
  have gps : GrowP h4 hs := gp.trans ghs
  have ocs := oc.gp gcs
  have ofs := of_.gp g1s
  have oxs := ox.gp ghs
  have dhs := dh.gp ghs
  rw [ints_app] at ofs
  have g0 : ∀ i, i < d.next.length → (d.next ++ [xl]).getD i [] = d.next.getD i [] := fun i hi => by rw [getD_app, if_pos hi]
  have g1' : (d.next ++ [xl]).getD d.next.length [] = xl := by rw [getD_app, if_neg (by omega), if_pos rfl]
  have r0 : ∀ i, i < d.next.length → (d.rule ++ [rule]).getD i 0 = d.rule.getD i 0 := fun i hi => by rw [getD_app, if_pos (by omega)]
  have r1 : (d.rule ++ [rule]).getD d.next.length 0 = rule := by rw [getD_app, if_neg (by omega), if_pos hrul.symm]
  have dT : DfaV hs (fun _ => True) (.agg ⟨dfaC d.start d.cls vw2 vy2⟩) vw2 vy2 (us ++ [vx]) ⟨d.start, d.cls, d.next ++ [xl], d.rule ++ [rule]⟩ := by
    refine ⟨rfl, hd.cls, hd.byte, ⟨ocs.sl, by simp [husl], fun j hj => ?_, fun _ _ => trivial⟩, ofs.sl, trivial, trivial, by simp only [List.length_append, List.length_singleton]; omega, by simp only [List.length_append, List.length_singleton]; omega, fun j hj => ?_⟩
    · simp only [List.length_append, List.length_singleton] at hj
      show SlV hs ((us ++ [vx]).getD j undef) (((d.next ++ [xl]).getD j []).map (.int .i64))
      by_cases e : j < d.next.length
      · rw [g0 j e, getD_app, if_pos (by omega)]; exact dhs.next.row j e
      · have : j = d.next.length := by omega
        subst this
        rw [g1', getD_app, if_neg (by omega), if_pos husl.symm]; exact oxs.sl
    · simp only [List.length_append, List.length_singleton] at hj
      show ((d.next ++ [xl]).getD j []).length < _
      by_cases e : j < d.next.length
      · rw [g0 j e]; exact hd.size.2.2 j e
      · have : j = d.next.length := by omega
        subst this
        rw [g1']; omega
  have ok2 : Dok ⟨d.start, d.cls, d.next ++ [xl], d.rule ++ [rule]⟩ := by
    refine ⟨by simp, by simp only [List.length_append, List.length_singleton]; omega, by simp [hrul], k4, by simp only [List.length_append, List.length_singleton]; omega, by simp only; rw [g0 0 (by omega)]; exact k6, by simp only; rw [g0 0 (by omega)]; exact k7, fun j hj => ?_⟩
    simp only [List.length_append, List.length_singleton] at hj ⊢
    rw [g0 0 (by omega)]
    by_cases e : j < d.next.length
    · obtain ⟨a1, a2, a3⟩ := k8 j e
      rw [g0 j e, r0 j e]
      exact ⟨a1, by omega, a3⟩
    · have : j = d.next.length := by omega
      subst this
      rw [g1', r1]
      refine ⟨hxl, ?_, q2⟩
      rw [maxI_lt (fun e => by rw [e] at hxl; simp only [List.length_nil] at hxl; omega)]
      intro i hi
      have := hxb i (by omega)
      omega
  have pid : ∀ x : Int, pz (fun s => s) x = x := fun x => by
    by_cases e : x < 0
    · exact pz_neg e
    · rw [pz_pos (by omega)]; omega
  have em : Emb (fun s => s) d ⟨d.start, d.cls, d.next ++ [xl], d.rule ++ [rule]⟩ := by
    refine ⟨fun s hs' => by simp only [List.length_append, List.length_singleton]; omega, fun a b _ _ => Iff.rfl, fun s hs' b hb => ?_, fun s hs' => ?_, by simp only; omega, fun s hs' b hb => ?_, ⟨k4, k5⟩, k1, by simp, k3, by simp [hrul]⟩
    · simp only
      rw [g0 s hs', pid]
    · simp only
      rw [r0 s hs']
    · obtain ⟨a1, a2, a3⟩ := k8 s hs'
      have h5 := hd.byte b hb
      have h6 := k10 b hb
      have := le_maxI (getD_mem (l := d.next.getD s []) (i := (d.cls.getD b 0).toNat) (by omega))
      omega
  have bhs : hs.at h.next = some (.cells (dfaC d.start d.cls vn vr) 34 true) := by rw [gps.at_ _ (by omega) (by omega)]; exact b4
  have bt : hs.at hf.next = some (.cells (dfaC d.start d.cls vw2 vy2) 34 true) := bg2
  have hcd13 : cut (dfaC d.start d.cls vw2 vy2) 0 259 = some (dfaC d.start d.cls vw2 vy2) := cut_all hz
  simp (maxSteps := 2000000) (disch := first | omega | assumption | (simp only [oneC_int, oneC_bool, oneC_str, oneC_ptr, oneC_sl, oneC_map]; done) | (simp only [List.length_cons, List.length_nil, List.length_set, List.length_map, List.length_replicate, List.length_append, List.length_take, List.length_drop, Int.toNat_natCast] <;> omega) | fail) only [Go.Rx.vi, Go.Rx.vb, Go.Rx.vstr, rxc, rxo, Nat.reduceLeDiff, List.getElem?_cons_zero, List.getElem?_cons_succ, List.length_cons, List.length_nil, List.set_cons_zero, List.set_cons_succ, ↓reduceIte, Bool.not_true, Bool.not_false, true_and, and_true, not_true_eq_false, not_false_eq_true, decide_true, decide_false, Nat.reduceEqDiff, Nat.reduceAdd, Nat.reduceMul, Nat.reducePow, Int.reduceToNat, Int.reducePow, Nat.zero_add, Nat.mul_one, Int.toNat_natCast, R5_14, e3, bhs, hcd]
  refine hL (by omega) (d4.gp gps) ok' fun h7 x w wn wr xs g7 dx lx => ?_
  have hwv := dx.val
  subst hwv
  have n7 := g7.next
  have z9 : (dfaC x.start x.cls wn wr).length = 259 := dfaC_len dx.cls
  have zone9 : allOne (dfaC x.start x.cls wn wr) = true := allOne_dfaC dx.next.sl.isSl dx.rule.isSl
  have zne9 : dfaC x.start x.cls wn wr ≠ [] := fun e => by rw [e] at z9; simp at z9
  simp (maxSteps := 2000000) (disch := first | omega | assumption | (simp only [oneC_int, oneC_bool, oneC_str, oneC_ptr, oneC_sl, oneC_map]; done) | (simp only [List.length_cons, List.length_nil, List.length_set, List.length_map, List.length_replicate, List.length_append, List.length_take, List.length_drop, Int.toNat_natCast] <;> omega) | fail) only [Go.Rx.vi, Go.Rx.vb, Go.Rx.vstr, rxc, rxo, Nat.reduceLeDiff, List.getElem?_cons_zero, List.getElem?_cons_succ, List.length_cons, List.length_nil, List.set_cons_zero, List.set_cons_succ, ↓reduceIte, Bool.not_true, Bool.not_false, true_and, and_true, not_true_eq_false, not_false_eq_true, decide_true, decide_false, Nat.reduceEqDiff, Nat.reduceAdd, Nat.reduceMul, Nat.reducePow, Int.reduceToNat, Int.reducePow, Nat.zero_add, Nat.mul_one, Int.toNat_natCast, e3, dfa0, epl, z9, stM_full zone9 zne9 (z9.trans (z259 _ _ _).symm)]
  obtain ⟨hv, ehv, gv, nv, bv⟩ := boxed h7 (dfaC 0 pl0 (.slice none 0 0) (.slice none 0 0)) 34
  rw [ehv]
  have cv : Chg h7.next hv (hv.set h7.next (some (.cells (dfaC x.start x.cls wn wr) 34 true))) := Chg.set
  have bv2 : (hv.set h7.next (some (.cells (dfaC x.start x.cls wn wr) 34 true))).at h7.next = _ := at_set_same
  generalize hv.set h7.next (some (.cells (dfaC x.start x.cls wn wr) 34 true)) = h8 at cv bv2 ⊢
  have g8 : GrowP h7 h8 := gv.p.chg cv (by omega)
  have n8 := cv.next
  have bt8 : h8.at hf.next = some (.cells (dfaC d.start d.cls vw2 vy2) 34 true) := by rw [g8.at_ _ (by omega) (by omega), g7.at_ _ (by omega) (by omega)]; exact bt
  simp (maxSteps := 2000000) (disch := first | omega | assumption | (simp only [oneC_int, oneC_bool, oneC_str, oneC_ptr, oneC_sl, oneC_map]; done) | (simp only [List.length_cons, List.length_nil, List.length_set, List.length_map, List.length_replicate, List.length_append, List.length_take, List.length_drop, Int.toNat_natCast] <;> omega) | fail) only [Go.Rx.vi, Go.Rx.vb, Go.Rx.vstr, rxc, rxo, Nat.reduceLeDiff, List.getElem?_cons_zero, List.getElem?_cons_succ, List.length_cons, List.length_nil, List.set_cons_zero, List.set_cons_succ, ↓reduceIte, Bool.not_true, Bool.not_false, true_and, and_true, not_true_eq_false, not_false_eq_true, decide_true, decide_false, Nat.reduceEqDiff, Nat.reduceAdd, Nat.reduceMul, Nat.reducePow, Int.reduceToNat, Int.reducePow, Nat.zero_add, Nat.mul_one, Int.toNat_natCast, R5_15, e3, bt8, hcd13]
  refine hL (by omega) (dT.gp (g7.trans g8)) ok2 fun h9 x' w' wn' wr' xs' g9 dx' lx' => ?_
  have hxx : x' = x := least_same em lx lx'
  subst hxx
  have hwv' := dx'.val
  subst hwv'
  have n9 := g9.next
  have z9' : (dfaC x'.start x'.cls wn' wr').length = 259 := dfaC_len dx'.cls
  have zone9' : allOne (dfaC x'.start x'.cls wn' wr') = true := allOne_dfaC dx'.next.sl.isSl dx'.rule.isSl
  have zne9' : dfaC x'.start x'.cls wn' wr' ≠ [] := fun e => by rw [e] at z9'; simp at z9'
  simp (maxSteps := 2000000) (disch := first | omega | assumption | (simp only [oneC_int, oneC_bool, oneC_str, oneC_ptr, oneC_sl, oneC_map]; done) | (simp only [List.length_cons, List.length_nil, List.length_set, List.length_map, List.length_replicate, List.length_append, List.length_take, List.length_drop, Int.toNat_natCast] <;> omega) | fail) only [Go.Rx.vi, Go.Rx.vb, Go.Rx.vstr, rxc, rxo, Nat.reduceLeDiff, List.getElem?_cons_zero, List.getElem?_cons_succ, List.length_cons, List.length_nil, List.set_cons_zero, List.set_cons_succ, ↓reduceIte, Bool.not_true, Bool.not_false, true_and, and_true, not_true_eq_false, not_false_eq_true, decide_true, decide_false, Nat.reduceEqDiff, Nat.reduceAdd, Nat.reduceMul, Nat.reducePow, Int.reduceToNat, Int.reducePow, Nat.zero_add, Nat.mul_one, Int.toNat_natCast, e3, dfa0, epl, z9', stM_full zone9' zne9' (z9'.trans (z259 _ _ _).symm)]
  obtain ⟨hv2, ehv2, gv2, nv2, bvv⟩ := boxed h9 (dfaC 0 pl0 (.slice none 0 0) (.slice none 0 0)) 34
  rw [ehv2]
  have cv2 : Chg h9.next hv2 (hv2.set h9.next (some (.cells (dfaC x'.start x'.cls wn' wr') 34 true))) := Chg.set
  have bv3 : (hv2.set h9.next (some (.cells (dfaC x'.start x'.cls wn' wr') 34 true))).at h9.next = _ := at_set_same
  generalize hv2.set h9.next (some (.cells (dfaC x'.start x'.cls wn' wr') 34 true)) = hq at cv2 bv3 ⊢
  have gq : GrowP h9 hq := gv2.p.chg cv2 (by omega)
  have bva : hq.at h7.next = some (.cells (dfaC x'.start x'.cls wn wr) 34 true) := by rw [gq.at_ _ (by omega) (by omega), g9.at_ _ (by omega) (by omega)]; exact bv2
  have hcx : cut (dfaC x'.start x'.cls wn wr) 0 259 = some (dfaC x'.start x'.cls wn wr) := cut_all z9
  have hcx' : cut (dfaC x'.start x'.cls wn' wr') 0 259 = some (dfaC x'.start x'.cls wn' wr') := cut_all z9'
  simp (maxSteps := 2000000) (disch := first | omega | assumption | (simp only [oneC_int, oneC_bool, oneC_str, oneC_ptr, oneC_sl, oneC_map]; done) | (simp only [List.length_cons, List.length_nil, List.length_set, List.length_map, List.length_replicate, List.length_append, List.length_take, List.length_drop, Int.toNat_natCast] <;> omega) | fail) only [Go.Rx.vi, Go.Rx.vb, Go.Rx.vstr, rxc, rxo, Nat.reduceLeDiff, List.getElem?_cons_zero, List.getElem?_cons_succ, List.length_cons, List.length_nil, List.set_cons_zero, List.set_cons_succ, ↓reduceIte, Bool.not_true, Bool.not_false, true_and, and_true, not_true_eq_false, not_false_eq_true, decide_true, decide_false, Nat.reduceEqDiff, Nat.reduceAdd, Nat.reduceMul, Nat.reducePow, Int.reduceToNat, Int.reducePow, Nat.zero_add, Nat.mul_one, Int.toNat_natCast, R5_16, e3, bva, bv3, hcx, hcx']
  refine hS (dx.gp (g8.trans (g9.trans gq))) (dx'.gp gq) rfl fun hw gw => ?_
  simp (maxSteps := 2000000) (disch := first | omega | assumption | (simp only [oneC_int, oneC_bool, oneC_str, oneC_ptr, oneC_sl, oneC_map]; done) | (simp only [List.length_cons, List.length_nil, List.length_set, List.length_map, List.length_replicate, List.length_append, List.length_take, List.length_drop, Int.toNat_natCast] <;> omega) | fail) only [Go.Rx.vi, Go.Rx.vb, Go.Rx.vstr, rxc, rxo, Nat.reduceLeDiff, List.getElem?_cons_zero, List.getElem?_cons_succ, List.length_cons, List.length_nil, List.set_cons_zero, List.set_cons_succ, ↓reduceIte, Bool.not_true, Bool.not_false, true_and, and_true, not_true_eq_false, not_false_eq_true, decide_true, decide_false, Nat.reduceEqDiff, Nat.reduceAdd, Nat.reduceMul, Nat.reducePow, Int.reduceToNat, Int.reducePow, Nat.zero_add, Nat.mul_one, Int.toNat_natCast]
  refine WF_true hO17 ?_
  simp (maxSteps := 2000000) (disch := first | omega | assumption | (simp only [oneC_int, oneC_bool, oneC_str, oneC_ptr, oneC_sl, oneC_map]; done) | (simp only [List.length_cons, List.length_nil, List.length_set, List.length_map, List.length_replicate, List.length_append, List.length_take, List.length_drop, Int.toNat_natCast] <;> omega) | fail) only [Go.Rx.vi, Go.Rx.vb, Go.Rx.vstr, rxc, rxo, Nat.reduceLeDiff, List.getElem?_cons_zero, List.getElem?_cons_succ, List.length_cons, List.length_nil, List.set_cons_zero, List.set_cons_succ, ↓reduceIte, Bool.not_true, Bool.not_false, true_and, and_true, not_true_eq_false, not_false_eq_true, decide_true, decide_false, Nat.reduceEqDiff, Nat.reduceAdd, Nat.reduceMul, Nat.reducePow, Int.reduceToNat, Int.reducePow, Nat.zero_add, Nat.mul_one, Int.toNat_natCast]
  exact hk _
end Go.Rx
