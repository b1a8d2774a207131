/- Contracts of functions of the given program, over the abstract machine. -/
import Derived.Test.YtabhplelhjcdiaaRh3
import Derived.Test.YtabhplelhjcdiaaRxZ
namespace Go.Rx
variable {M : Mach}
set_option maxRecDepth 4000
set_option linter.unusedSimpArgs false
set_option linter.unusedVariables false

/-- A slice of one's own that may begin further on in its block. -/
def OwnQ (t : TypeId) (sz : Nat) (h : Heap) (v : Value) (css : List (List Value)) : Prop :=
  bno v < h.next ∧ (∀ c ∈ css, c.length = sz) ∧ ∃ b off c pre rest, v = .slice (some ⟨b, off, none⟩) css.length c ∧ 1 ≤ b ∧ pre.length = off ∧ h.at b = some (.cells (pre ++ (css.flatten ++ rest)) t true) ∧ css.length * sz + rest.length = c * sz ∧ css.length ≤ c
theorem OwnQ.sl {t : TypeId} {sz : Nat} {h : Heap} {v : Value} {css : List (List Value)} (ho : OwnQ t sz h v css) : SlN t sz h v css := by
  obtain ⟨h0, hl, b, off, c, pre, rest, h1, h2, hp, h3, h4, h5⟩ := ho
  refine ⟨h0, hl, .inr ⟨b, off, none, c, _, _, _, h1, h2, h3, fun _ => rfl, h5, ?_⟩⟩
  rw [cut_ok (by simp [flatN hl, hp])]
  rw [← hp, List.drop_left' rfl, List.take_left' (flatN hl)]
theorem OwnQ.chg {t : TypeId} {sz w : Nat} {h h' : Heap} {v : Value} {css : List (List Value)} (hs : OwnQ t sz h v css) (c : Chg w h h') (hne : bno v ≠ w ∨ bno v = 0) : OwnQ t sz h' v css := by
  obtain ⟨h0, hl, b, off, c', pre, rest, h1, h2, hp, h3, h4⟩ := hs
  have hbn : bno v = b := by rw [h1]; rfl
  exact ⟨by have := c.next; omega, hl, b, off, c', pre, rest, h1, h2, hp, by rw [c.at_ b (by omega) (by omega)]; exact h3, h4⟩
theorem OwnQ.gp {t : TypeId} {sz : Nat} {h h' : Heap} {v : Value} {css : List (List Value)} (hs : OwnQ t sz h v css) (g : GrowP h h') : OwnQ t sz h' v css := hs.chg g.c (by omega)
theorem ownq_one {t : TypeId} {sz : Nat} {h : Heap} {cs : List Value} (h1 : 1 ≤ h.next) (hn : cs.length = sz) : OwnQ t sz (h.new (.cells cs t true)) (.slice (some ⟨h.next, 0, none⟩) 1 1) [cs] :=
  ⟨by show h.next < h.next + 1; omega, by simpa using hn, h.next, 0, 1, [], [], rfl, h1, rfl, by rw [at_new_same]; simp, by simp, by simp⟩
/-- xs[1:] -/
theorem OwnQ.tl {t : TypeId} {sz : Nat} {h : Heap} {v : Value} {c0 : List Value} {css : List (List Value)} (hs : OwnQ t sz h v (c0 :: css)) {k : IntKind} : ∃ v', sliceV h t sz v (some (.int k 1)) none none = some v' ∧ OwnQ t sz h v' css ∧ bno v' = bno v := by
  obtain ⟨hb, hl, b, off, c, pre, rest, rfl, hb1, hp, h3, h4, h5⟩ := hs
  simp only [List.length_cons] at h4 h5 ⊢
  have hc0 := hl c0 (by simp)
  refine ⟨.slice (some ⟨b, off + 1 * sz, none⟩) css.length (c - 1), ?_, ⟨hb, fun x hx => hl x (by simp [hx]), b, off + 1 * sz, c - 1, pre ++ c0, rest, rfl, hb1, by simp [hp, hc0], ?_, ?_, by omega⟩, rfl⟩
  · unfold sliceV
    simp only [bounds, bound_none, bound_some]
    rw [ix_ok (by omega) (by simp; omega)]
    simp only [ble_t (show (1 : Int).toNat ≤ css.length + 1 by simp), ble_t (show css.length + 1 ≤ c by omega), sameE, h3, beq_t, Bool.and_self, cond_true]
    rfl
  · rw [h3]; simp
  · have : c * sz = (c - 1) * sz + sz := by
      rw [← Nat.succ_mul]; congr 1; omega
    rw [Nat.add_mul] at h4
    omega
theorem OwnQ.app {t : TypeId} {sz : Nat} {h : Heap} {v y : Value} {css new : List (List Value)} {bytes : Nat} (h1 : 1 ≤ h.next) (hsz : 0 < sz) (ho : OwnQ t sz h v css) (hn : appNew h sz y = some (new.flatten, new.length)) (hnl : ∀ c ∈ new, c.length = sz) (hone : allOne new.flatten = true) (hb : (css.length + new.length) * (bytes + 1) ≤ 140737488355328) :
    ∃ v' h', appV h t sz bytes v y = some (v', h') ∧ OwnQ t sz h' v' (css ++ new) ∧ Chg (bno v) h h' ∧ (bno v' = bno v ∨ h.next ≤ bno v') := by
  unfold appV
  rw [hn]
  simp only
  obtain ⟨h0, hl, b, off, c, pre, rest, rfl, h2, hp, h3, h4, h5⟩ := ho
  have hbn : bno (.slice (some ⟨b, off, none⟩) css.length c) = b := rfl
  have hall : ∀ x ∈ css ++ new, x.length = sz := by
    intro x hx
    rcases List.mem_append.1 hx with hx | hx
    · exact hl x hx
    · exact hnl x hx
  simp only
  by_cases hc : css.length + new.length ≤ c
  · rw [ble_t hc]
    simp only [cond_true]
    by_cases hm : new.length = 0
    · have : new = [] := List.length_eq_zero_iff.1 hm
      subst this
      exact ⟨_, h, rfl, ⟨h0, by simpa using hl, b, off, c, pre, rest, by simp, h2, hp, by simpa using h3, by simpa using h4, by simpa using h5⟩, .refl _ _, .inl rfl⟩
    · rw [beq_f hm]
      simp only [cond_false]
      have hfl : new.flatten.length = new.length * sz := flatN hnl
      have hcl : css.flatten.length = css.length * sz := flatN hl
      have hpos : 0 < new.length * sz := Nat.mul_pos (by omega) hsz
      have hle : (css.length + new.length) * sz ≤ c * sz := Nat.mul_le_mul_right _ hc
      rw [Nat.add_mul] at hle
      have hlen : (pre ++ css.flatten).length = off + css.length * sz := by rw [List.length_append, hp, hcl]
      have hw : wrCells h ⟨b, off + css.length * sz, none⟩ new.flatten = some (h.set b (some (.cells (pre ++ ((css.flatten ++ new.flatten) ++ rest.drop (new.length * sz))) t true))) := by
        show wrB h b (off + css.length * sz) new.flatten (h.at b) = _
        rw [h3]
        show (bif allOne new.flatten then (match setAt (pre ++ (css.flatten ++ rest)) (off + css.length * sz) new.flatten with | some cs' => some (h.set b (some (.cells cs' t true))) | none => none) else none) = _
        rw [hone, setAt_eq, if_neg (fun he => by rw [he] at hfl; simp at hfl; omega), if_pos (by simp only [List.length_append]; omega)]
        simp only [cond_true]
        rw [← List.append_assoc pre, ← hlen, List.take_left' rfl, List.drop_append, List.drop_of_length_le (by omega), List.nil_append, Nat.add_sub_cancel_left, hfl]
        simp
      rw [hw]
      refine ⟨_, _, rfl, ⟨h0, hall, b, off, c, pre, rest.drop (new.length * sz), by simp, h2, hp, by rw [at_set_same, List.flatten_append], ?_, by simpa using hc⟩, .set, .inl rfl⟩
      rw [List.length_drop, List.length_append, Nat.add_mul]
      omega
  · rw [ble_f hc]
    simp only [cond_false]
    rw [ble_t (show (css.length + new.length) * (bytes + 1) ≤ limB by unfold limB; exact hb)]
    simp only [cond_true]
    have hrd : rdCells h ⟨b, off, none⟩ (css.length * sz) = some css.flatten := by
      show rdB off (css.length * sz) (h.at b) = _
      rw [h3, rdB_cells, cut_ok (by simp [flatN hl, hp]), ← hp, List.drop_left' rfl, List.take_left' (flatN hl)]
    rw [hrd]
    simp only
    have hg : appGrow h t ⟨b, off, none⟩ (css.length + new.length) (css.flatten ++ new.flatten) = some (.slice (some ⟨h.next, 0, none⟩) (css.length + new.length) (css.length + new.length), (h.set b none).new (.cells (css.flatten ++ new.flatten) t true)) := by
      unfold appGrow
      simp only [h3, beq_t, cond_true]
    rw [hg]
    refine ⟨_, _, rfl, ⟨by show h.next < h.next + 1; omega, hall, h.next, 0, css.length + new.length, [], [], by simp, by omega, rfl, ?_, by simp, by simp⟩, Chg.set.new, .inr (Nat.le_refl _)⟩
    have := at_new_same (h := h.set b none) (x := .cells (css.flatten ++ new.flatten) t true)
    simpa using this
theorem WI_appq1 {t : TypeId} {sz : Nat} {h : Heap} {v : Value} {css : List (List Value)} {c : List Value} {bytes : Nat} (h1 : 1 ≤ h.next) (hsz : 0 < sz) (ho : OwnQ t sz h v css) (hc : c.length = sz) (hone : ∀ x ∈ c, isAggV x = false) (hb : (css.length + 1) * (bytes + 1) ≤ 140737488355328) {d : Option Nat} {l : List GI} {e : Env} {K : KB}
    (hk : ∀ v' h', OwnQ t sz h' v' (css ++ [c]) → Chg (bno v) h h' → (bno v' = bno v ∨ h.next ≤ bno v') → WI M (some (v', h')) d l e K) :
    WI M (appV (h.new (.cells c t true)) t sz bytes v (.slice (some ⟨h.next, 0, none⟩) 1 1)) d l e K := by
  have hal : allOne [c].flatten = true := allOne_of (by simpa using hone)
  obtain ⟨v', h', e1, e2, e3, e4⟩ := OwnQ.app (bytes := bytes) (by simp) hsz (ho.gp (Grow.refl h).new.p) (appNew_sl (own_one (t := t) h1 hc).sl hal) (by simpa using hc) hal (by simpa using hb)
  rw [e1]
  refine hk v' h' e2 (Chg.trans ((Chg.refl _ _).new) e3) ?_
  rcases e4 with e4 | e4
  · exact .inl e4
  · right; simp at e4; omega

theorem rsize_ok (hm : M.Mono) (hO : M.O 48 = none) (hF : M.F 48 = some A48) {r : RegD} {cs : List Value} {h : Heap} {K : KF} (h1 : 1 ≤ h.next) (hr : RegC h r cs)
  (hk : ∀ h', GrowP h h' → K (.int .i64 (min r.size 513 : Nat)) h') : WF M 48 [.agg ⟨cs⟩] h K := by
  rw [WF_eqT 7 hO hF]
  obtain ⟨q1, q2, q3, v, css, q4, q5, q6⟩ := hr.b
  simp (maxSteps := 2000000) (disch := first | omega | assumption | (simp only [zA]; done) | (simp only [zB] <;> omega) | fail) only [Go.Rx.vi, Go.Rx.vb, Go.Rx.vstr, rxc, rxo, zC, Nat.reduceLeDiff, ↓reduceIte, Nat.reduceEqDiff, Nat.reduceAdd, Nat.reduceMul, Nat.reducePow, Int.reduceToNat, Int.reducePow, A48, R48_0, q1]
  obtain ⟨h2, e2, g2, n2, b2⟩ := boxed h cs 48
  rw [e2]
  simp (maxSteps := 2000000) (disch := first | omega | assumption | (simp only [zA]; done) | (simp only [zB] <;> omega) | fail) only [Go.Rx.vi, Go.Rx.vb, Go.Rx.vstr, rxc, rxo, zC, Nat.reduceLeDiff, ↓reduceIte, Nat.reduceEqDiff, Nat.reduceAdd, Nat.reduceMul, Nat.reducePow, Int.reduceToNat, Int.reducePow, R48_1, R48_2, b2, q1, cut_all q1, fill6 q1]
  obtain ⟨h3, e3, g3, n3, b3⟩ := boxed h2 cs 48
  rw [e3]
  have own : OwnQ 48 6 h3 (.slice (some ⟨h2.next, 0, none⟩) 1 1) [cs] := by rw [← e3]; exact ownq_one (by omega) q1
  have g0 := g2.trans g3
  refine WC_bloop 7 (fun m e h' => ∃ (n : Nat) (w : Value) (ds : List RegD) (dss : List (List Value)), m = 513 - n ∧ n ≤ 513 ∧ ds.length ≤ 513 ∧ min (n + sizeR ds) 513 = min r.size 513 ∧ e.g 3 = .int .i64 n ∧ e.g 4 = w ∧ h.next ≤ bno w ∧ OwnQ 48 6 h' w dss ∧ RegL h ds dss ∧ GrowP h h')
    (fun e h' => e.g 3 = .int .i64 (min r.size 513 : Nat) ∧ GrowP h h') ?_ ?_ ?_
  · refine ⟨_, 0, .slice (some ⟨h2.next, 0, none⟩) 1 1, [r], [cs], rfl, by omega, by simp, by simp [sizeR], ?_, ?_, ?_, own, .one hr, g0⟩
    · simp (maxSteps := 2000000) (disch := first | omega | assumption | (simp only [zA]; done) | (simp only [zB] <;> omega) | fail) only [Go.Rx.vi, Go.Rx.vb, Go.Rx.vstr, rxc, rxo, zC, Nat.reduceLeDiff, ↓reduceIte, Nat.reduceEqDiff, Nat.reduceAdd, Nat.reduceMul, Nat.reducePow, Int.reduceToNat, Int.reducePow]; rfl
    · simp (maxSteps := 2000000) (disch := first | omega | assumption | (simp only [zA]; done) | (simp only [zB] <;> omega) | fail) only [Go.Rx.vi, Go.Rx.vb, Go.Rx.vstr, rxc, rxo, zC, Nat.reduceLeDiff, ↓reduceIte, Nat.reduceEqDiff, Nat.reduceAdd, Nat.reduceMul, Nat.reducePow, Int.reduceToNat, Int.reducePow]
    · show h.next ≤ h2.next
      omega
  · rintro m e h' ⟨n, w, ds, dss, rfl, hn, hdl, hsz, e3, e4, hw, own, hl, g⟩
    have hlen := (RegL.iff.1 hl).1
    have r1 := own.sl.r
    have hh1 : 1 ≤ h'.next := Nat.le_trans h1 g.next
    simp (maxSteps := 2000000) (disch := first | omega | assumption | (simp only [zA]; done) | (simp only [zB] <;> omega) | fail) only [Go.Rx.vi, Go.Rx.vb, Go.Rx.vstr, rxc, rxo, zC, Nat.reduceLeDiff, ↓reduceIte, Nat.reduceEqDiff, Nat.reduceAdd, Nat.reduceMul, Nat.reducePow, Int.reduceToNat, Int.reducePow, B48_0, R48_3, e3, e4, r1]
    refine WG_dec (fun hc => ?_) (fun hc => ?_)
    · simp (maxSteps := 2000000) (disch := first | omega | assumption | (simp only [zA]; done) | (simp only [zB] <;> omega) | fail) only [Go.Rx.vi, Go.Rx.vb, Go.Rx.vstr, rxc, rxo, zC, Nat.reduceLeDiff, ↓reduceIte, Nat.reduceEqDiff, Nat.reduceAdd, Nat.reduceMul, Nat.reducePow, Int.reduceToNat, Int.reducePow, e3, e4]
      refine WCond_dec (fun hn2 => ?_) (fun hn2 => ?_)
      · match ds, dss, hl, own, r1, hlen, hdl, hsz, hc with
        | p :: ds', c :: dss', hl, own, r1, hlen, hdl, hsz, hc =>
          obtain ⟨_, _, hcc, hp, hl'⟩ := hl
          obtain ⟨rfl, rfl⟩ := List.cons.inj hcc
          obtain ⟨p1, p2, p3, pv, pss, p4, p5, p6⟩ := hp.b
          simp only [List.length_cons] at r1 hdl hlen
          simp (maxSteps := 2000000) (disch := first | omega | assumption | (simp only [zA]; done) | (simp only [zB] <;> omega) | fail) only [Go.Rx.vi, Go.Rx.vb, Go.Rx.vstr, rxc, rxo, zC, Nat.reduceLeDiff, ↓reduceIte, Nat.reduceEqDiff, Nat.reduceAdd, Nat.reduceMul, Nat.reducePow, Int.reduceToNat, Int.reducePow, R48_4, e3, e4, r1, List.getD_cons_zero, p1, st6 p1 p2]
          obtain ⟨h4, e5, g4, n4, b4⟩ := boxed2 h' [.int .i64 0, .int .u64 0, .int .u64 0, .int .u64 0, .int .u64 0, .slice none 0 0] c 48
          rw [e5]
          have own4 := own.gp g4
          have p54 := p5.gp (g.trans g4)
          obtain ⟨w', c1, c2, c3⟩ := own4.tl (k := .i64)
          have hpl := (RegL.iff.1 p6).1
          have hlb := hp.lenB
          simp (maxSteps := 2000000) (disch := first | omega | assumption | (simp only [zA]; done) | (simp only [zB] <;> omega) | fail) only [Go.Rx.vi, Go.Rx.vb, Go.Rx.vstr, rxc, rxo, zC, Nat.reduceLeDiff, ↓reduceIte, Nat.reduceEqDiff, Nat.reduceAdd, Nat.reduceMul, Nat.reducePow, Int.reduceToNat, Int.reducePow, R48_5, e4, c1, R48_6, e3, R48_7]
          have key : ∀ j, j ≤ p.parts.length → (j = p.parts.length ∨ 512 < ds'.length + j) → min (n + 1 + sizeR (ds' ++ p.parts.take j)) 513 = min r.size 513 := by
            intro j hj hor
            rw [← hsz, sizeR, sizeR_app]
            have hps : p.size = 1 + sizeR p.parts := by cases p; rw [RegD.size]; rfl
            rcases hor with rfl | hor
            · rw [List.take_length, hps]; omega
            · have l1 := sizeR_len ds'
              have l2 := sizeR_len (p.parts.take j)
              have l3 := sizeR_len p.parts
              rw [List.length_take, Nat.min_eq_left hj] at l2
              rw [hps]; omega
          refine WC_bloop 7 (fun m e h' => ∃ (j : Nat) (w : Value) (dss : List (List Value)), m = pss.length - j ∧ j ≤ pss.length ∧ (ds' ++ p.parts.take j).length ≤ 513 ∧ e.g 3 = .int .i64 (n + 1 : Nat) ∧ e.g 5 = .pointer (some ⟨h4.next - 1, 0, none⟩) ∧ e.g 6 = .int .i64 j ∧ e.g 4 = w ∧ h.next ≤ bno w ∧ bno w ≠ h4.next - 1 ∧ OwnQ 48 6 h' w dss ∧ RegL h (ds' ++ p.parts.take j) dss ∧ GrowP h h' ∧ h4.next ≤ h'.next ∧ h'.at (h4.next - 1) = some (.cells c 48 true))
            (fun e h' => ∃ (w : Value) (ds : List RegD) (dss : List (List Value)), ds.length ≤ 513 ∧ min (n + 1 + sizeR ds) 513 = min r.size 513 ∧ e.g 3 = .int .i64 (n + 1 : Nat) ∧ e.g 4 = w ∧ h.next ≤ bno w ∧ OwnQ 48 6 h' w dss ∧ RegL h ds dss ∧ GrowP h h') ?_ ?_ ?_
          · have hb4 : h4.next - 1 = h'.next := by omega
            refine ⟨_, 0, w', dss', rfl, by omega, by simp; omega, ?_, ?_, ?_, ?_, by rw [c3]; exact hw, ?_, c2, by simpa using hl', g.trans g4, Nat.le_refl _, by rw [hb4]; exact b4⟩
            · simp (maxSteps := 2000000) (disch := first | omega | assumption | (simp only [zA]; done) | (simp only [zB] <;> omega) | fail) only [Go.Rx.vi, Go.Rx.vb, Go.Rx.vstr, rxc, rxo, zC, Nat.reduceLeDiff, ↓reduceIte, Nat.reduceEqDiff, Nat.reduceAdd, Nat.reduceMul, Nat.reducePow, Int.reduceToNat, Int.reducePow]; simp
            · simp (maxSteps := 2000000) (disch := first | omega | assumption | (simp only [zA]; done) | (simp only [zB] <;> omega) | fail) only [Go.Rx.vi, Go.Rx.vb, Go.Rx.vstr, rxc, rxo, zC, Nat.reduceLeDiff, ↓reduceIte, Nat.reduceEqDiff, Nat.reduceAdd, Nat.reduceMul, Nat.reducePow, Int.reduceToNat, Int.reducePow]; rw [hb4]
            · simp (maxSteps := 2000000) (disch := first | omega | assumption | (simp only [zA]; done) | (simp only [zB] <;> omega) | fail) only [Go.Rx.vi, Go.Rx.vb, Go.Rx.vstr, rxc, rxo, zC, Nat.reduceLeDiff, ↓reduceIte, Nat.reduceEqDiff, Nat.reduceAdd, Nat.reduceMul, Nat.reducePow, Int.reduceToNat, Int.reducePow]; rfl
            · simp (maxSteps := 2000000) (disch := first | omega | assumption | (simp only [zA]; done) | (simp only [zB] <;> omega) | fail) only [Go.Rx.vi, Go.Rx.vb, Go.Rx.vstr, rxc, rxo, zC, Nat.reduceLeDiff, ↓reduceIte, Nat.reduceEqDiff, Nat.reduceAdd, Nat.reduceMul, Nat.reducePow, Int.reduceToNat, Int.reducePow]
            · have := own.1; rw [c3]; omega
          · rintro m e h6 ⟨j, w, dss, rfl, hj, hdl2, e3, e5, e6, e4, hw, hwn, own, hl, g, hn6, b6⟩
            have hlen := (RegL.iff.1 hl).1
            have r1 := own.sl.r
            have r6 := (p5.gp g).r
            simp (maxSteps := 2000000) (disch := first | omega | assumption | (simp only [zA]; done) | (simp only [zB] <;> omega) | fail) only [Go.Rx.vi, Go.Rx.vb, Go.Rx.vstr, rxc, rxo, zC, Nat.reduceLeDiff, ↓reduceIte, Nat.reduceEqDiff, Nat.reduceAdd, Nat.reduceMul, Nat.reducePow, Int.reduceToNat, Int.reducePow, B48_1, R48_8, e3, e4, e5, e6, r1, b6, p4, r6]
            by_cases hjl : (j : Int) < pss.length
            · simp only [hjl, decide_true]
              simp (maxSteps := 2000000) (disch := first | omega | assumption | (simp only [zA]; done) | (simp only [zB] <;> omega) | fail) only [Go.Rx.vi, Go.Rx.vb, Go.Rx.vstr, rxc, rxo, zC, Nat.reduceLeDiff, ↓reduceIte, Nat.reduceEqDiff, Nat.reduceAdd, Nat.reduceMul, Nat.reducePow, Int.reduceToNat, Int.reducePow, e4, r1]
              refine WCond_dec (fun hc3 => ?_) (fun hc3 => ?_)
              · obtain ⟨q, hq, hqc⟩ := p6.get (i := j) (by omega)
                obtain ⟨o1, o2, o3, ov, oss, o4, o5, o6⟩ := hqc.b
                simp (maxSteps := 2000000) (disch := first | omega | assumption | (simp only [zA]; done) | (simp only [zB] <;> omega) | fail) only [Go.Rx.vi, Go.Rx.vb, Go.Rx.vstr, rxc, rxo, zC, Nat.reduceLeDiff, ↓reduceIte, Nat.reduceEqDiff, Nat.reduceAdd, Nat.reduceMul, Nat.reducePow, Int.reduceToNat, Int.reducePow, R48_9, e3, e4, e5, e6, b6, p4, r6, o1, cut_all o1, fill6 o1]
                refine WI_appq1 (by omega) (by omega) own o1 hqc.len.2 (by omega) ?_
                intro w2 h7 own2 g7 b7
                simp (maxSteps := 2000000) (disch := first | omega | assumption | (simp only [zA]; done) | (simp only [zB] <;> omega) | fail) only [Go.Rx.vi, Go.Rx.vb, Go.Rx.vstr, rxc, rxo, zC, Nat.reduceLeDiff, ↓reduceIte, Nat.reduceEqDiff, Nat.reduceAdd, Nat.reduceMul, Nat.reducePow, Int.reduceToNat, Int.reducePow, e3, e4, e5, e6, R48_10]
                have htk : p.parts.take (j + 1) = p.parts.take j ++ [q] := by rw [List.take_add_one, hq]; rfl
                refine ⟨_, ?_, j + 1, w2, dss ++ [pss.getD j []], rfl, by omega, ?_, ?_, rfl, ?_, ?_, own2, ?_, g.chg g7 (by right; omega), ?_, ?_⟩
                · omega
                · rw [htk, ← List.append_assoc, List.length_append, ← hlen]; simp; omega
                · simp
                · have := g.next; omega
                · omega
                · rw [htk, ← List.append_assoc]; exact hl.app (.one hqc)
                · have := g7.next; omega
                · rw [g7.at_ _ (by omega) (by omega)]; exact b6
              · simp (maxSteps := 2000000) (disch := first | omega | assumption | (simp only [zA]; done) | (simp only [zB] <;> omega) | fail) only [Go.Rx.vi, Go.Rx.vb, Go.Rx.vstr, rxc, rxo, zC, Nat.reduceLeDiff, ↓reduceIte, Nat.reduceEqDiff, Nat.reduceAdd, Nat.reduceMul, Nat.reducePow, Int.reduceToNat, Int.reducePow]
                simp only [List.length_append, List.length_take] at hlen
                exact ⟨w, _, dss, hdl2, key j (by omega) (.inr (by omega)), e3, e4, hw, own, hl, g⟩
            · simp only [hjl, decide_false]
              simp (maxSteps := 2000000) (disch := first | omega | assumption | (simp only [zA]; done) | (simp only [zB] <;> omega) | fail) only [Go.Rx.vi, Go.Rx.vb, Go.Rx.vstr, rxc, rxo, zC, Nat.reduceLeDiff, ↓reduceIte, Nat.reduceEqDiff, Nat.reduceAdd, Nat.reduceMul, Nat.reducePow, Int.reduceToNat, Int.reducePow]
              exact ⟨w, _, dss, hdl2, key j (by omega) (.inl (by omega)), e3, e4, hw, own, hl, g⟩
          · rintro e h' ⟨w, ds, dss, hdl, hsz, e3, e4, hw, own, hl, g⟩
            simp (maxSteps := 2000000) (disch := first | omega | assumption | (simp only [zA]; done) | (simp only [zB] <;> omega) | fail) only [Go.Rx.vi, Go.Rx.vb, Go.Rx.vstr, rxc, rxo, zC, Nat.reduceLeDiff, ↓reduceIte, Nat.reduceEqDiff, Nat.reduceAdd, Nat.reduceMul, Nat.reducePow, Int.reduceToNat, Int.reducePow]
            refine ⟨_, ?_, n + 1, w, ds, dss, rfl, by omega, hdl, hsz, e3, e4, hw, own, hl, g⟩
            omega
        | [], c :: _, hl, _, _, hlen, _, _, _ => simp at hlen
        | p :: _, [], hl, _, _, hlen, _, _, _ => simp at hlen
        | [], [], hl, _, _, hlen, _, _, hc => simp at hc
      · simp (maxSteps := 2000000) (disch := first | omega | assumption | (simp only [zA]; done) | (simp only [zB] <;> omega) | fail) only [Go.Rx.vi, Go.Rx.vb, Go.Rx.vstr, rxc, rxo, zC, Nat.reduceLeDiff, ↓reduceIte, Nat.reduceEqDiff, Nat.reduceAdd, Nat.reduceMul, Nat.reducePow, Int.reduceToNat, Int.reducePow, e3, e4]
        refine ⟨?_, g⟩
        have : min r.size 513 = n := by omega
        rw [this]
    · simp (maxSteps := 2000000) (disch := first | omega | assumption | (simp only [zA]; done) | (simp only [zB] <;> omega) | fail) only [Go.Rx.vi, Go.Rx.vb, Go.Rx.vstr, rxc, rxo, zC, Nat.reduceLeDiff, ↓reduceIte, Nat.reduceEqDiff, Nat.reduceAdd, Nat.reduceMul, Nat.reducePow, Int.reduceToNat, Int.reducePow, e3, e4]
      refine ⟨?_, g⟩
      have : ds = [] := List.length_eq_zero_iff.1 (by omega)
      subst this
      simp only [sizeR, Nat.add_zero] at hsz
      rw [← hsz, Nat.min_eq_left hn]
  · rintro e h' ⟨e3, g⟩
    simp (maxSteps := 2000000) (disch := first | omega | assumption | (simp only [zA]; done) | (simp only [zB] <;> omega) | fail) only [Go.Rx.vi, Go.Rx.vb, Go.Rx.vstr, rxc, rxo, zC, Nat.reduceLeDiff, ↓reduceIte, Nat.reduceEqDiff, Nat.reduceAdd, Nat.reduceMul, Nat.reducePow, Int.reduceToNat, Int.reducePow, R48_11, e3]
    exact hk _ g
end Go.Rx

namespace Go.Rx
variable {M : Mach}
set_option maxRecDepth 4000
set_option linter.unusedSimpArgs false
set_option linter.unusedVariables false

theorem depth_le_size {ps : List RegD} : depthR ps ≤ sizeR ps := by
  have := depth_size (.mk 0 [] ps)
  rw [RegD.depth, RegD.size] at this
  omega
theorem deep_ok (hm : M.Mono) (hO : M.O 49 = none) (hF : M.F 49 = some A49) (r : RegD) : ∀ {cs : List Value} {h : Heap} {K : KF}, 1 ≤ h.next → RegC h r cs → r.size < 4611686018427387904 →
    (∀ h', GrowP h h' → K (.int .i64 r.depth) h') → WF M 49 [.agg ⟨cs⟩] h K := by
  refine RegD.ind (P := fun r => ∀ {cs : List Value} {h : Heap} {K : KF}, 1 ≤ h.next → RegC h r cs → r.size < 4611686018427387904 →
    (∀ h', GrowP h h' → K (.int .i64 r.depth) h') → WF M 49 [.agg ⟨cs⟩] h K) ?_ r
  intro k s ps ih cs h K h1 hr hsz hk
  rw [WF_eqT 6 hO hF]
  obtain ⟨q1, q2, q3, v, css, q4, q5, q6⟩ := hr.b
  rw [RegD.parts] at q6
  rw [RegD.size] at hsz
  simp (maxSteps := 2000000) (disch := first | omega | assumption | (simp only [zA]; done) | (simp only [zB] <;> omega) | fail) only [Go.Rx.vi, Go.Rx.vb, Go.Rx.vstr, rxc, rxo, zC, Nat.reduceLeDiff, ↓reduceIte, Nat.reduceEqDiff, Nat.reduceAdd, Nat.reduceMul, Nat.reducePow, Int.reduceToNat, Int.reducePow, A49, R49_0, q1]
  obtain ⟨h2, e2, g2, n2, b2⟩ := boxed h cs 48
  rw [e2]
  have hpl := (RegL.iff.1 q6).1
  have hsl := sizeR_len ps
  simp (maxSteps := 2000000) (disch := first | omega | assumption | (simp only [zA]; done) | (simp only [zB] <;> omega) | fail) only [Go.Rx.vi, Go.Rx.vb, Go.Rx.vstr, rxc, rxo, zC, Nat.reduceLeDiff, ↓reduceIte, Nat.reduceEqDiff, Nat.reduceAdd, Nat.reduceMul, Nat.reducePow, Int.reduceToNat, Int.reducePow, R49_1, R49_2]
  refine WC_bloop 6 (fun m e h' => ∃ (i : Nat), m = css.length - i ∧ i ≤ css.length ∧ e.g 1 = .pointer (some ⟨h.next, 0, none⟩) ∧ e.g 3 = .int .i64 (depthR (ps.take i) : Nat) ∧ e.g 4 = .int .i64 i ∧ GrowP h2 h')
    (fun e h' => e.g 3 = .int .i64 (depthR ps : Nat) ∧ GrowP h2 h') ?_ ?_ ?_
  · refine ⟨_, 0, rfl, by omega, ?_, ?_, ?_, .refl _⟩
    · simp (maxSteps := 2000000) (disch := first | omega | assumption | (simp only [zA]; done) | (simp only [zB] <;> omega) | fail) only [Go.Rx.vi, Go.Rx.vb, Go.Rx.vstr, rxc, rxo, zC, Nat.reduceLeDiff, ↓reduceIte, Nat.reduceEqDiff, Nat.reduceAdd, Nat.reduceMul, Nat.reducePow, Int.reduceToNat, Int.reducePow]
    · simp (maxSteps := 2000000) (disch := first | omega | assumption | (simp only [zA]; done) | (simp only [zB] <;> omega) | fail) only [Go.Rx.vi, Go.Rx.vb, Go.Rx.vstr, rxc, rxo, zC, Nat.reduceLeDiff, ↓reduceIte, Nat.reduceEqDiff, Nat.reduceAdd, Nat.reduceMul, Nat.reducePow, Int.reduceToNat, Int.reducePow]; rfl
    · simp (maxSteps := 2000000) (disch := first | omega | assumption | (simp only [zA]; done) | (simp only [zB] <;> omega) | fail) only [Go.Rx.vi, Go.Rx.vb, Go.Rx.vstr, rxc, rxo, zC, Nat.reduceLeDiff, ↓reduceIte, Nat.reduceEqDiff, Nat.reduceAdd, Nat.reduceMul, Nat.reducePow, Int.reduceToNat, Int.reducePow]; rfl
  · rintro m e h' ⟨i, rfl, hi, e1, e3, e4, g⟩
    have b3 : h'.at h.next = _ := (g.at_ _ h1 (by omega)).trans b2
    have r2 := ((q5.gp g2).gp g).r
    have gn := g.next
    simp (maxSteps := 2000000) (disch := first | omega | assumption | (simp only [zA]; done) | (simp only [zB] <;> omega) | fail) only [Go.Rx.vi, Go.Rx.vb, Go.Rx.vstr, rxc, rxo, zC, Nat.reduceLeDiff, ↓reduceIte, Nat.reduceEqDiff, Nat.reduceAdd, Nat.reduceMul, Nat.reducePow, Int.reduceToNat, Int.reducePow, B49_0, R49_3, e1, e4, b3, q4, r2]
    refine WCond_dec (fun hc => ?_) (fun hc => ?_)
    · obtain ⟨p, hp, hpc⟩ := q6.get (i := i) (by omega)
      obtain ⟨p1, p2, p3, pv, pss, p4, p5, p6⟩ := hpc.b
      simp (maxSteps := 2000000) (disch := first | omega | assumption | (simp only [zA]; done) | (simp only [zB] <;> omega) | fail) only [Go.Rx.vi, Go.Rx.vb, Go.Rx.vstr, rxc, rxo, zC, Nat.reduceLeDiff, ↓reduceIte, Nat.reduceEqDiff, Nat.reduceAdd, Nat.reduceMul, Nat.reducePow, Int.reduceToNat, Int.reducePow, R49_4, e1, e3, e4, b3, q4, r2]
      have hps := sizeR_get hp
      refine ih p (List.mem_of_getElem? hp) (by omega) ((hpc.gp g2).gp g) (by omega) ?_
      intro h5 g5
      simp (maxSteps := 2000000) (disch := first | omega | assumption | (simp only [zA]; done) | (simp only [zB] <;> omega) | fail) only [Go.Rx.vi, Go.Rx.vb, Go.Rx.vstr, rxc, rxo, zC, Nat.reduceLeDiff, ↓reduceIte, Nat.reduceEqDiff, Nat.reduceAdd, Nat.reduceMul, Nat.reducePow, Int.reduceToNat, Int.reducePow, R49_5, e3]
      have htk := depthR_take hp
      refine WCond_dec (fun hc2 => ?_) (fun hc2 => ?_)
      · simp (maxSteps := 2000000) (disch := first | omega | assumption | (simp only [zA]; done) | (simp only [zB] <;> omega) | fail) only [Go.Rx.vi, Go.Rx.vb, Go.Rx.vstr, rxc, rxo, zC, Nat.reduceLeDiff, ↓reduceIte, Nat.reduceEqDiff, Nat.reduceAdd, Nat.reduceMul, Nat.reducePow, Int.reduceToNat, Int.reducePow, R49_6, R49_7, e1, e4]
        refine ⟨_, ?_, i + 1, rfl, by omega, ?_, ?_, g.trans g5⟩
        · omega
        · rw [htk]; congr 1; omega
        · simp
      · simp (maxSteps := 2000000) (disch := first | omega | assumption | (simp only [zA]; done) | (simp only [zB] <;> omega) | fail) only [Go.Rx.vi, Go.Rx.vb, Go.Rx.vstr, rxc, rxo, zC, Nat.reduceLeDiff, ↓reduceIte, Nat.reduceEqDiff, Nat.reduceAdd, Nat.reduceMul, Nat.reducePow, Int.reduceToNat, Int.reducePow, R49_7, e1, e3, e4]
        refine ⟨_, ?_, i + 1, rfl, by omega, ?_, ?_, g.trans g5⟩
        · omega
        · rw [htk]; congr 1; omega
        · simp
    · simp (maxSteps := 2000000) (disch := first | omega | assumption | (simp only [zA]; done) | (simp only [zB] <;> omega) | fail) only [Go.Rx.vi, Go.Rx.vb, Go.Rx.vstr, rxc, rxo, zC, Nat.reduceLeDiff, ↓reduceIte, Nat.reduceEqDiff, Nat.reduceAdd, Nat.reduceMul, Nat.reducePow, Int.reduceToNat, Int.reducePow, e3]
      refine ⟨?_, g⟩
      rw [List.take_of_length_le (by omega)]
  · rintro e h' ⟨e3, g⟩
    have hdl := depth_le_size (ps := ps)
    simp (maxSteps := 2000000) (disch := first | omega | assumption | (simp only [zA]; done) | (simp only [zB] <;> omega) | fail) only [Go.Rx.vi, Go.Rx.vb, Go.Rx.vstr, rxc, rxo, zC, Nat.reduceLeDiff, ↓reduceIte, Nat.reduceEqDiff, Nat.reduceAdd, Nat.reduceMul, Nat.reducePow, Int.reduceToNat, Int.reducePow, R49_8, e3]
    have := hk _ (g2.trans g)
    rw [RegD.depth] at this
    simpa using this

def X50 : AC := (.seq (.seq (.reg R50_5) (.cond (.t 19) .skip (.seq (.reg R50_6) (.cond (.t 19) .skip (.reg R50_7))))) (.cond (.t 19) (.seq (.reg R50_8) .ret) (.seq (.seq (.reg R50_9) (.cond (.t 25) .skip (.reg R50_10))) (.cond (.t 25) (.seq (.reg R50_11) (.cond (.t 29) (.seq (.reg R50_12) .ret) .skip)) (.seq (.seq (.reg R50_13) (.cond (.t 30) .skip (.seq (.reg R50_14) (.cond (.t 30) .skip (.reg R50_15))))) (.cond (.t 30) (.seq (.reg R50_16) (.cond (.t 35) (.seq (.reg R50_17) .ret) .skip)) (.seq (.reg R50_18) .ret)))))))
theorem rmay_switch {k : Int} {n : Nat} {e : Env} {h : Heap} {K : KC} {P : Value} (e1 : e.g 1 = P) (e18 : e.g 18 = .int .i64 k) (e3 : e.g 3 = .int .i64 n)
  (hret : ∀ e' b, e'.g 2 = .bool b → ((k = 0 ∨ k = 1 ∨ k = 2) ∧ b = decide (n = 0) ∨ ¬ (k = 0 ∨ k = 1 ∨ k = 2) ∧ b = false ∧ okN k n = false) → K .ret (TE 5 [] e') h)
  (hk : ∀ e', e'.g 1 = P → e'.g 3 = .int .i64 n → okN k n = true → ¬ (k = 0 ∨ k = 1 ∨ k = 2) → K .normal (TE 5 [] e') h) : WC M X50 e h K := by
  rw [← TE_nil (n := 5) (e := e)]
  simp (maxSteps := 2000000) (disch := first | omega | assumption | (simp only [zA]; done) | (simp only [zB] <;> omega) | fail) only [Go.Rx.vi, Go.Rx.vb, Go.Rx.vstr, rxc, rxo, zC, Nat.reduceLeDiff, ↓reduceIte, Nat.reduceEqDiff, Nat.reduceAdd, Nat.reduceMul, Nat.reducePow, Int.reduceToNat, Int.reducePow, X50, R50_5, R50_6, R50_7, R50_8, R50_9, R50_10, R50_11, R50_12, R50_13, R50_14, R50_15, R50_16, R50_17, R50_18, e18, e3]
  refine WCond_dec (fun h0 => ?_) (fun h0 => ?_)
  · simp (maxSteps := 2000000) (disch := first | omega | assumption | (simp only [zA]; done) | (simp only [zB] <;> omega) | fail) only [Go.Rx.vi, Go.Rx.vb, Go.Rx.vstr, rxc, rxo, zC, Nat.reduceLeDiff, ↓reduceIte, Nat.reduceEqDiff, Nat.reduceAdd, Nat.reduceMul, Nat.reducePow, Int.reduceToNat, Int.reducePow, e18, e3]
    refine hret _ (decide (n = 0)) ?_ (.inl ⟨by omega, rfl⟩)
    simp (maxSteps := 2000000) (disch := first | omega | assumption | (simp only [zA]; done) | (simp only [zB] <;> omega) | fail) only [Go.Rx.vi, Go.Rx.vb, Go.Rx.vstr, rxc, rxo, zC, Nat.reduceLeDiff, ↓reduceIte, Nat.reduceEqDiff, Nat.reduceAdd, Nat.reduceMul, Nat.reducePow, Int.reduceToNat, Int.reducePow]
    congr 1
    exact decide_eq_decide.2 (by omega)
  · simp (maxSteps := 2000000) (disch := first | omega | assumption | (simp only [zA]; done) | (simp only [zB] <;> omega) | fail) only [Go.Rx.vi, Go.Rx.vb, Go.Rx.vstr, rxc, rxo, zC, Nat.reduceLeDiff, ↓reduceIte, Nat.reduceEqDiff, Nat.reduceAdd, Nat.reduceMul, Nat.reducePow, Int.reduceToNat, Int.reducePow, e18, e3]
    refine WCond_dec (fun h1 => ?_) (fun h1 => ?_)
    · simp (maxSteps := 2000000) (disch := first | omega | assumption | (simp only [zA]; done) | (simp only [zB] <;> omega) | fail) only [Go.Rx.vi, Go.Rx.vb, Go.Rx.vstr, rxc, rxo, zC, Nat.reduceLeDiff, ↓reduceIte, Nat.reduceEqDiff, Nat.reduceAdd, Nat.reduceMul, Nat.reducePow, Int.reduceToNat, Int.reducePow, e18, e3]
      refine hret _ (decide (n = 0)) ?_ (.inl ⟨by omega, rfl⟩)
      simp (maxSteps := 2000000) (disch := first | omega | assumption | (simp only [zA]; done) | (simp only [zB] <;> omega) | fail) only [Go.Rx.vi, Go.Rx.vb, Go.Rx.vstr, rxc, rxo, zC, Nat.reduceLeDiff, ↓reduceIte, Nat.reduceEqDiff, Nat.reduceAdd, Nat.reduceMul, Nat.reducePow, Int.reduceToNat, Int.reducePow]
      congr 1
      exact decide_eq_decide.2 (by omega)
    · simp (maxSteps := 2000000) (disch := first | omega | assumption | (simp only [zA]; done) | (simp only [zB] <;> omega) | fail) only [Go.Rx.vi, Go.Rx.vb, Go.Rx.vstr, rxc, rxo, zC, Nat.reduceLeDiff, ↓reduceIte, Nat.reduceEqDiff, Nat.reduceAdd, Nat.reduceMul, Nat.reducePow, Int.reduceToNat, Int.reducePow, e18, e3]
      refine WCond_dec (fun h2 => ?_) (fun h2 => ?_)
      · simp (maxSteps := 2000000) (disch := first | omega | assumption | (simp only [zA]; done) | (simp only [zB] <;> omega) | fail) only [Go.Rx.vi, Go.Rx.vb, Go.Rx.vstr, rxc, rxo, zC, Nat.reduceLeDiff, ↓reduceIte, Nat.reduceEqDiff, Nat.reduceAdd, Nat.reduceMul, Nat.reducePow, Int.reduceToNat, Int.reducePow, e18, e3]
        refine hret _ (decide (n = 0)) ?_ (.inl ⟨by omega, rfl⟩)
        simp (maxSteps := 2000000) (disch := first | omega | assumption | (simp only [zA]; done) | (simp only [zB] <;> omega) | fail) only [Go.Rx.vi, Go.Rx.vb, Go.Rx.vstr, rxc, rxo, zC, Nat.reduceLeDiff, ↓reduceIte, Nat.reduceEqDiff, Nat.reduceAdd, Nat.reduceMul, Nat.reducePow, Int.reduceToNat, Int.reducePow]
        congr 1
        exact decide_eq_decide.2 (by omega)
      · simp (maxSteps := 2000000) (disch := first | omega | assumption | (simp only [zA]; done) | (simp only [zB] <;> omega) | fail) only [Go.Rx.vi, Go.Rx.vb, Go.Rx.vstr, rxc, rxo, zC, Nat.reduceLeDiff, ↓reduceIte, Nat.reduceEqDiff, Nat.reduceAdd, Nat.reduceMul, Nat.reducePow, Int.reduceToNat, Int.reducePow, e18, e3]
        refine WCond_dec (fun h3 => ?_) (fun h3 => ?_)
        · simp (maxSteps := 2000000) (disch := first | omega | assumption | (simp only [zA]; done) | (simp only [zB] <;> omega) | fail) only [Go.Rx.vi, Go.Rx.vb, Go.Rx.vstr, rxc, rxo, zC, Nat.reduceLeDiff, ↓reduceIte, Nat.reduceEqDiff, Nat.reduceAdd, Nat.reduceMul, Nat.reducePow, Int.reduceToNat, Int.reducePow, e18, e3]
          refine WCond_dec (fun hn => ?_) (fun hn => ?_)
          · simp (maxSteps := 2000000) (disch := first | omega | assumption | (simp only [zA]; done) | (simp only [zB] <;> omega) | fail) only [Go.Rx.vi, Go.Rx.vb, Go.Rx.vstr, rxc, rxo, zC, Nat.reduceLeDiff, ↓reduceIte, Nat.reduceEqDiff, Nat.reduceAdd, Nat.reduceMul, Nat.reducePow, Int.reduceToNat, Int.reducePow]
            refine hret _ false ?_ (.inr ⟨by omega, rfl, decide_eq_false (by omega)⟩)
            simp (maxSteps := 2000000) (disch := first | omega | assumption | (simp only [zA]; done) | (simp only [zB] <;> omega) | fail) only [Go.Rx.vi, Go.Rx.vb, Go.Rx.vstr, rxc, rxo, zC, Nat.reduceLeDiff, ↓reduceIte, Nat.reduceEqDiff, Nat.reduceAdd, Nat.reduceMul, Nat.reducePow, Int.reduceToNat, Int.reducePow]
          · simp (maxSteps := 2000000) (disch := first | omega | assumption | (simp only [zA]; done) | (simp only [zB] <;> omega) | fail) only [Go.Rx.vi, Go.Rx.vb, Go.Rx.vstr, rxc, rxo, zC, Nat.reduceLeDiff, ↓reduceIte, Nat.reduceEqDiff, Nat.reduceAdd, Nat.reduceMul, Nat.reducePow, Int.reduceToNat, Int.reducePow]
            exact hk _ (by simp (maxSteps := 2000000) (disch := first | omega | assumption | (simp only [zA]; done) | (simp only [zB] <;> omega) | fail) only [Go.Rx.vi, Go.Rx.vb, Go.Rx.vstr, rxc, rxo, zC, Nat.reduceLeDiff, ↓reduceIte, Nat.reduceEqDiff, Nat.reduceAdd, Nat.reduceMul, Nat.reducePow, Int.reduceToNat, Int.reducePow, e1]) (by simp (maxSteps := 2000000) (disch := first | omega | assumption | (simp only [zA]; done) | (simp only [zB] <;> omega) | fail) only [Go.Rx.vi, Go.Rx.vb, Go.Rx.vstr, rxc, rxo, zC, Nat.reduceLeDiff, ↓reduceIte, Nat.reduceEqDiff, Nat.reduceAdd, Nat.reduceMul, Nat.reducePow, Int.reduceToNat, Int.reducePow, e3]) (decide_eq_true (by omega)) (by omega)
        · simp (maxSteps := 2000000) (disch := first | omega | assumption | (simp only [zA]; done) | (simp only [zB] <;> omega) | fail) only [Go.Rx.vi, Go.Rx.vb, Go.Rx.vstr, rxc, rxo, zC, Nat.reduceLeDiff, ↓reduceIte, Nat.reduceEqDiff, Nat.reduceAdd, Nat.reduceMul, Nat.reducePow, Int.reduceToNat, Int.reducePow, e18, e3]
          refine WCond_dec (fun h4 => ?_) (fun h4 => ?_)
          · simp (maxSteps := 2000000) (disch := first | omega | assumption | (simp only [zA]; done) | (simp only [zB] <;> omega) | fail) only [Go.Rx.vi, Go.Rx.vb, Go.Rx.vstr, rxc, rxo, zC, Nat.reduceLeDiff, ↓reduceIte, Nat.reduceEqDiff, Nat.reduceAdd, Nat.reduceMul, Nat.reducePow, Int.reduceToNat, Int.reducePow, e18, e3]
            refine WCond_dec (fun hn => ?_) (fun hn => ?_)
            · simp (maxSteps := 2000000) (disch := first | omega | assumption | (simp only [zA]; done) | (simp only [zB] <;> omega) | fail) only [Go.Rx.vi, Go.Rx.vb, Go.Rx.vstr, rxc, rxo, zC, Nat.reduceLeDiff, ↓reduceIte, Nat.reduceEqDiff, Nat.reduceAdd, Nat.reduceMul, Nat.reducePow, Int.reduceToNat, Int.reducePow]
              refine hret _ false ?_ (.inr ⟨by omega, rfl, decide_eq_false (by omega)⟩)
              simp (maxSteps := 2000000) (disch := first | omega | assumption | (simp only [zA]; done) | (simp only [zB] <;> omega) | fail) only [Go.Rx.vi, Go.Rx.vb, Go.Rx.vstr, rxc, rxo, zC, Nat.reduceLeDiff, ↓reduceIte, Nat.reduceEqDiff, Nat.reduceAdd, Nat.reduceMul, Nat.reducePow, Int.reduceToNat, Int.reducePow]
            · simp (maxSteps := 2000000) (disch := first | omega | assumption | (simp only [zA]; done) | (simp only [zB] <;> omega) | fail) only [Go.Rx.vi, Go.Rx.vb, Go.Rx.vstr, rxc, rxo, zC, Nat.reduceLeDiff, ↓reduceIte, Nat.reduceEqDiff, Nat.reduceAdd, Nat.reduceMul, Nat.reducePow, Int.reduceToNat, Int.reducePow]
              exact hk _ (by simp (maxSteps := 2000000) (disch := first | omega | assumption | (simp only [zA]; done) | (simp only [zB] <;> omega) | fail) only [Go.Rx.vi, Go.Rx.vb, Go.Rx.vstr, rxc, rxo, zC, Nat.reduceLeDiff, ↓reduceIte, Nat.reduceEqDiff, Nat.reduceAdd, Nat.reduceMul, Nat.reducePow, Int.reduceToNat, Int.reducePow, e1]) (by simp (maxSteps := 2000000) (disch := first | omega | assumption | (simp only [zA]; done) | (simp only [zB] <;> omega) | fail) only [Go.Rx.vi, Go.Rx.vb, Go.Rx.vstr, rxc, rxo, zC, Nat.reduceLeDiff, ↓reduceIte, Nat.reduceEqDiff, Nat.reduceAdd, Nat.reduceMul, Nat.reducePow, Int.reduceToNat, Int.reducePow, e3]) (decide_eq_true (by omega)) (by omega)
          · simp (maxSteps := 2000000) (disch := first | omega | assumption | (simp only [zA]; done) | (simp only [zB] <;> omega) | fail) only [Go.Rx.vi, Go.Rx.vb, Go.Rx.vstr, rxc, rxo, zC, Nat.reduceLeDiff, ↓reduceIte, Nat.reduceEqDiff, Nat.reduceAdd, Nat.reduceMul, Nat.reducePow, Int.reduceToNat, Int.reducePow, e18, e3]
            refine WCond_dec (fun h5 => ?_) (fun h5 => ?_)
            · simp (maxSteps := 2000000) (disch := first | omega | assumption | (simp only [zA]; done) | (simp only [zB] <;> omega) | fail) only [Go.Rx.vi, Go.Rx.vb, Go.Rx.vstr, rxc, rxo, zC, Nat.reduceLeDiff, ↓reduceIte, Nat.reduceEqDiff, Nat.reduceAdd, Nat.reduceMul, Nat.reducePow, Int.reduceToNat, Int.reducePow, e18, e3]
              refine WCond_dec (fun hn => ?_) (fun hn => ?_)
              · simp (maxSteps := 2000000) (disch := first | omega | assumption | (simp only [zA]; done) | (simp only [zB] <;> omega) | fail) only [Go.Rx.vi, Go.Rx.vb, Go.Rx.vstr, rxc, rxo, zC, Nat.reduceLeDiff, ↓reduceIte, Nat.reduceEqDiff, Nat.reduceAdd, Nat.reduceMul, Nat.reducePow, Int.reduceToNat, Int.reducePow]
                refine hret _ false ?_ (.inr ⟨by omega, rfl, decide_eq_false (by omega)⟩)
                simp (maxSteps := 2000000) (disch := first | omega | assumption | (simp only [zA]; done) | (simp only [zB] <;> omega) | fail) only [Go.Rx.vi, Go.Rx.vb, Go.Rx.vstr, rxc, rxo, zC, Nat.reduceLeDiff, ↓reduceIte, Nat.reduceEqDiff, Nat.reduceAdd, Nat.reduceMul, Nat.reducePow, Int.reduceToNat, Int.reducePow]
              · simp (maxSteps := 2000000) (disch := first | omega | assumption | (simp only [zA]; done) | (simp only [zB] <;> omega) | fail) only [Go.Rx.vi, Go.Rx.vb, Go.Rx.vstr, rxc, rxo, zC, Nat.reduceLeDiff, ↓reduceIte, Nat.reduceEqDiff, Nat.reduceAdd, Nat.reduceMul, Nat.reducePow, Int.reduceToNat, Int.reducePow]
                exact hk _ (by simp (maxSteps := 2000000) (disch := first | omega | assumption | (simp only [zA]; done) | (simp only [zB] <;> omega) | fail) only [Go.Rx.vi, Go.Rx.vb, Go.Rx.vstr, rxc, rxo, zC, Nat.reduceLeDiff, ↓reduceIte, Nat.reduceEqDiff, Nat.reduceAdd, Nat.reduceMul, Nat.reducePow, Int.reduceToNat, Int.reducePow, e1]) (by simp (maxSteps := 2000000) (disch := first | omega | assumption | (simp only [zA]; done) | (simp only [zB] <;> omega) | fail) only [Go.Rx.vi, Go.Rx.vb, Go.Rx.vstr, rxc, rxo, zC, Nat.reduceLeDiff, ↓reduceIte, Nat.reduceEqDiff, Nat.reduceAdd, Nat.reduceMul, Nat.reducePow, Int.reduceToNat, Int.reducePow, e3]) (decide_eq_true (by omega)) (by omega)
            · simp (maxSteps := 2000000) (disch := first | omega | assumption | (simp only [zA]; done) | (simp only [zB] <;> omega) | fail) only [Go.Rx.vi, Go.Rx.vb, Go.Rx.vstr, rxc, rxo, zC, Nat.reduceLeDiff, ↓reduceIte, Nat.reduceEqDiff, Nat.reduceAdd, Nat.reduceMul, Nat.reducePow, Int.reduceToNat, Int.reducePow, e18, e3]
              refine WCond_dec (fun h6 => ?_) (fun h6 => ?_)
              · simp (maxSteps := 2000000) (disch := first | omega | assumption | (simp only [zA]; done) | (simp only [zB] <;> omega) | fail) only [Go.Rx.vi, Go.Rx.vb, Go.Rx.vstr, rxc, rxo, zC, Nat.reduceLeDiff, ↓reduceIte, Nat.reduceEqDiff, Nat.reduceAdd, Nat.reduceMul, Nat.reducePow, Int.reduceToNat, Int.reducePow, e18, e3]
                refine WCond_dec (fun hn => ?_) (fun hn => ?_)
                · simp (maxSteps := 2000000) (disch := first | omega | assumption | (simp only [zA]; done) | (simp only [zB] <;> omega) | fail) only [Go.Rx.vi, Go.Rx.vb, Go.Rx.vstr, rxc, rxo, zC, Nat.reduceLeDiff, ↓reduceIte, Nat.reduceEqDiff, Nat.reduceAdd, Nat.reduceMul, Nat.reducePow, Int.reduceToNat, Int.reducePow]
                  refine hret _ false ?_ (.inr ⟨by omega, rfl, decide_eq_false (by omega)⟩)
                  simp (maxSteps := 2000000) (disch := first | omega | assumption | (simp only [zA]; done) | (simp only [zB] <;> omega) | fail) only [Go.Rx.vi, Go.Rx.vb, Go.Rx.vstr, rxc, rxo, zC, Nat.reduceLeDiff, ↓reduceIte, Nat.reduceEqDiff, Nat.reduceAdd, Nat.reduceMul, Nat.reducePow, Int.reduceToNat, Int.reducePow]
                · simp (maxSteps := 2000000) (disch := first | omega | assumption | (simp only [zA]; done) | (simp only [zB] <;> omega) | fail) only [Go.Rx.vi, Go.Rx.vb, Go.Rx.vstr, rxc, rxo, zC, Nat.reduceLeDiff, ↓reduceIte, Nat.reduceEqDiff, Nat.reduceAdd, Nat.reduceMul, Nat.reducePow, Int.reduceToNat, Int.reducePow]
                  exact hk _ (by simp (maxSteps := 2000000) (disch := first | omega | assumption | (simp only [zA]; done) | (simp only [zB] <;> omega) | fail) only [Go.Rx.vi, Go.Rx.vb, Go.Rx.vstr, rxc, rxo, zC, Nat.reduceLeDiff, ↓reduceIte, Nat.reduceEqDiff, Nat.reduceAdd, Nat.reduceMul, Nat.reducePow, Int.reduceToNat, Int.reducePow, e1]) (by simp (maxSteps := 2000000) (disch := first | omega | assumption | (simp only [zA]; done) | (simp only [zB] <;> omega) | fail) only [Go.Rx.vi, Go.Rx.vb, Go.Rx.vstr, rxc, rxo, zC, Nat.reduceLeDiff, ↓reduceIte, Nat.reduceEqDiff, Nat.reduceAdd, Nat.reduceMul, Nat.reducePow, Int.reduceToNat, Int.reducePow, e3]) (decide_eq_true (by omega)) (by omega)
              · simp (maxSteps := 2000000) (disch := first | omega | assumption | (simp only [zA]; done) | (simp only [zB] <;> omega) | fail) only [Go.Rx.vi, Go.Rx.vb, Go.Rx.vstr, rxc, rxo, zC, Nat.reduceLeDiff, ↓reduceIte, Nat.reduceEqDiff, Nat.reduceAdd, Nat.reduceMul, Nat.reducePow, Int.reduceToNat, Int.reducePow, e18, e3]
                refine WCond_dec (fun h7 => ?_) (fun h7 => ?_)
                · simp (maxSteps := 2000000) (disch := first | omega | assumption | (simp only [zA]; done) | (simp only [zB] <;> omega) | fail) only [Go.Rx.vi, Go.Rx.vb, Go.Rx.vstr, rxc, rxo, zC, Nat.reduceLeDiff, ↓reduceIte, Nat.reduceEqDiff, Nat.reduceAdd, Nat.reduceMul, Nat.reducePow, Int.reduceToNat, Int.reducePow, e18, e3]
                  refine WCond_dec (fun hn => ?_) (fun hn => ?_)
                  · simp (maxSteps := 2000000) (disch := first | omega | assumption | (simp only [zA]; done) | (simp only [zB] <;> omega) | fail) only [Go.Rx.vi, Go.Rx.vb, Go.Rx.vstr, rxc, rxo, zC, Nat.reduceLeDiff, ↓reduceIte, Nat.reduceEqDiff, Nat.reduceAdd, Nat.reduceMul, Nat.reducePow, Int.reduceToNat, Int.reducePow]
                    refine hret _ false ?_ (.inr ⟨by omega, rfl, decide_eq_false (by omega)⟩)
                    simp (maxSteps := 2000000) (disch := first | omega | assumption | (simp only [zA]; done) | (simp only [zB] <;> omega) | fail) only [Go.Rx.vi, Go.Rx.vb, Go.Rx.vstr, rxc, rxo, zC, Nat.reduceLeDiff, ↓reduceIte, Nat.reduceEqDiff, Nat.reduceAdd, Nat.reduceMul, Nat.reducePow, Int.reduceToNat, Int.reducePow]
                  · simp (maxSteps := 2000000) (disch := first | omega | assumption | (simp only [zA]; done) | (simp only [zB] <;> omega) | fail) only [Go.Rx.vi, Go.Rx.vb, Go.Rx.vstr, rxc, rxo, zC, Nat.reduceLeDiff, ↓reduceIte, Nat.reduceEqDiff, Nat.reduceAdd, Nat.reduceMul, Nat.reducePow, Int.reduceToNat, Int.reducePow]
                    exact hk _ (by simp (maxSteps := 2000000) (disch := first | omega | assumption | (simp only [zA]; done) | (simp only [zB] <;> omega) | fail) only [Go.Rx.vi, Go.Rx.vb, Go.Rx.vstr, rxc, rxo, zC, Nat.reduceLeDiff, ↓reduceIte, Nat.reduceEqDiff, Nat.reduceAdd, Nat.reduceMul, Nat.reducePow, Int.reduceToNat, Int.reducePow, e1]) (by simp (maxSteps := 2000000) (disch := first | omega | assumption | (simp only [zA]; done) | (simp only [zB] <;> omega) | fail) only [Go.Rx.vi, Go.Rx.vb, Go.Rx.vstr, rxc, rxo, zC, Nat.reduceLeDiff, ↓reduceIte, Nat.reduceEqDiff, Nat.reduceAdd, Nat.reduceMul, Nat.reducePow, Int.reduceToNat, Int.reducePow, e3]) (decide_eq_true (by omega)) (by omega)
                · simp (maxSteps := 2000000) (disch := first | omega | assumption | (simp only [zA]; done) | (simp only [zB] <;> omega) | fail) only [Go.Rx.vi, Go.Rx.vb, Go.Rx.vstr, rxc, rxo, zC, Nat.reduceLeDiff, ↓reduceIte, Nat.reduceEqDiff, Nat.reduceAdd, Nat.reduceMul, Nat.reducePow, Int.reduceToNat, Int.reducePow, e18, e3]
                  refine hret _ false ?_ (.inr ⟨by omega, rfl, decide_eq_false (by omega)⟩)
                  simp (maxSteps := 2000000) (disch := first | omega | assumption | (simp only [zA]; done) | (simp only [zB] <;> omega) | fail) only [Go.Rx.vi, Go.Rx.vb, Go.Rx.vstr, rxc, rxo, zC, Nat.reduceLeDiff, ↓reduceIte, Nat.reduceEqDiff, Nat.reduceAdd, Nat.reduceMul, Nat.reducePow, Int.reduceToNat, Int.reducePow]

theorem rmay_ok (hm : M.Mono) (hO : M.O 50 = none) (hF : M.F 50 = some A50) (r : RegD) : ∀ {cs : List Value} {h : Heap} {K : KF}, 1 ≤ h.next → RegC h r cs → r.size < 4611686018427387904 →
    (∀ h', GrowP h h' → K (.bool r.may) h') → WF M 50 [.agg ⟨cs⟩] h K := by
  refine RegD.ind (P := fun r => ∀ {cs : List Value} {h : Heap} {K : KF}, 1 ≤ h.next → RegC h r cs → r.size < 4611686018427387904 →
    (∀ h', GrowP h h' → K (.bool r.may) h') → WF M 50 [.agg ⟨cs⟩] h K) ?_ r
  intro k s ps ih cs h K h1 hr hsz hk
  rw [WF_eqT 5 hO hF]
  obtain ⟨q1, q2, q3, v, css, q4, q5, q6⟩ := hr.b
  obtain ⟨z1, z2, z3⟩ := hr.cutSet
  rw [RegD.parts] at q6
  rw [RegD.kind] at q3
  rw [RegD.set] at z1 z2
  rw [RegD.size] at hsz
  have hA : A50 = ⟨(.seq (.reg R50_0) (.seq (.reg R50_1) (.seq (.seq (.reg R50_2) (.cond (.t 16) (.seq (.reg R50_3) .ret) .skip)) (.seq (.seq (.reg R50_4) (.block 0 X50)) (.seq (.seq (.reg R50_19) (.block 1 (.loop B50_0))) (.seq (.reg R50_24) .ret)))))), [(2, none)]⟩ := rfl
  simp (maxSteps := 2000000) (disch := first | omega | assumption | (simp only [zA]; done) | (simp only [zB] <;> omega) | fail) only [Go.Rx.vi, Go.Rx.vb, Go.Rx.vstr, rxc, rxo, zC, Nat.reduceLeDiff, ↓reduceIte, Nat.reduceEqDiff, Nat.reduceAdd, Nat.reduceMul, Nat.reducePow, Int.reduceToNat, Int.reducePow, hA, R50_0, q1]
  obtain ⟨h2, e2, g2, n2, b2⟩ := boxed h cs 48
  rw [e2]
  have r1 := q5.r
  have hpl := (RegL.iff.1 q6).1
  have hsl := sizeR_len ps
  have hend : ∀ h', GrowP h h' → K (.bool (okN k ps.length && (decide (k = 2) || decide (s = [0, 0, 0, 0])) && mayR ps)) h' := fun h' g => by rw [← RegD.may]; exact hk h' g
  simp (maxSteps := 2000000) (disch := first | omega | assumption | (simp only [zA]; done) | (simp only [zB] <;> omega) | fail) only [Go.Rx.vi, Go.Rx.vb, Go.Rx.vstr, rxc, rxo, zC, Nat.reduceLeDiff, ↓reduceIte, Nat.reduceEqDiff, Nat.reduceAdd, Nat.reduceMul, Nat.reducePow, Int.reduceToNat, Int.reducePow, R50_1, b2, q4, r1]
  have rest : ∀ (e : Env), e.g 1 = .pointer (some ⟨h.next, 0, none⟩) → e.g 3 = .int .i64 ps.length → (k = 2 ∨ s = [0, 0, 0, 0]) → WB M R50_4 e h2 (SeqK M (.block 0 X50) (SeqK M (.seq (.seq (.reg R50_19) (.block 1 (.loop B50_0))) (.seq (.reg R50_24) .ret)) (FunK [(2, none)] K)) .normal) := by
    intro e e1 e3 hset
    have hset' : (decide (k = 2) || decide (s = [0, 0, 0, 0])) = true := by
      rcases hset with h | h
      · rw [decide_eq_true h]; rfl
      · rw [decide_eq_true h, Bool.or_true]
    rw [← TE_nil (n := 5) (e := e)]
    simp (maxSteps := 2000000) (disch := first | omega | assumption | (simp only [zA]; done) | (simp only [zB] <;> omega) | fail) only [Go.Rx.vi, Go.Rx.vb, Go.Rx.vstr, rxc, rxo, zC, Nat.reduceLeDiff, ↓reduceIte, Nat.reduceEqDiff, Nat.reduceAdd, Nat.reduceMul, Nat.reducePow, Int.reduceToNat, Int.reducePow, R50_4, e1, b2, q3]
    refine rmay_switch (k := k) (n := ps.length) (P := .pointer (some ⟨h.next, 0, none⟩)) (by simp (maxSteps := 2000000) (disch := first | omega | assumption | (simp only [zA]; done) | (simp only [zB] <;> omega) | fail) only [Go.Rx.vi, Go.Rx.vb, Go.Rx.vstr, rxc, rxo, zC, Nat.reduceLeDiff, ↓reduceIte, Nat.reduceEqDiff, Nat.reduceAdd, Nat.reduceMul, Nat.reducePow, Int.reduceToNat, Int.reducePow, e1]) (by simp (maxSteps := 2000000) (disch := first | omega | assumption | (simp only [zA]; done) | (simp only [zB] <;> omega) | fail) only [Go.Rx.vi, Go.Rx.vb, Go.Rx.vstr, rxc, rxo, zC, Nat.reduceLeDiff, ↓reduceIte, Nat.reduceEqDiff, Nat.reduceAdd, Nat.reduceMul, Nat.reducePow, Int.reduceToNat, Int.reducePow]) (by simp (maxSteps := 2000000) (disch := first | omega | assumption | (simp only [zA]; done) | (simp only [zB] <;> omega) | fail) only [Go.Rx.vi, Go.Rx.vb, Go.Rx.vstr, rxc, rxo, zC, Nat.reduceLeDiff, ↓reduceIte, Nat.reduceEqDiff, Nat.reduceAdd, Nat.reduceMul, Nat.reducePow, Int.reduceToNat, Int.reducePow, e3]) ?_ ?_
    · intro e' b e2' hb
      simp (maxSteps := 2000000) (disch := first | omega | assumption | (simp only [zA]; done) | (simp only [zB] <;> omega) | fail) only [Go.Rx.vi, Go.Rx.vb, Go.Rx.vstr, rxc, rxo, zC, Nat.reduceLeDiff, ↓reduceIte, Nat.reduceEqDiff, Nat.reduceAdd, Nat.reduceMul, Nat.reducePow, Int.reduceToNat, Int.reducePow, e2']
      have := hend h2 g2
      rw [hset', Bool.and_true] at this
      rcases hb with ⟨h3, rfl⟩ | ⟨_, rfl, h4⟩
      · by_cases hn : ps.length = 0
        · have hps : ps = [] := List.length_eq_zero_iff.1 hn
          have hok : okN k ps.length = true := decide_eq_true (by omega)
          rw [hok, hps] at this
          rw [decide_eq_true hn]
          simpa [mayR] using this
        · have hok : okN k ps.length = false := decide_eq_false (by omega)
          rw [hok] at this
          rw [decide_eq_false hn]
          simpa using this
      · rw [h4] at this
        simpa using this
    · intro e' e1 e3 hok hk012
      simp (maxSteps := 2000000) (disch := first | omega | assumption | (simp only [zA]; done) | (simp only [zB] <;> omega) | fail) only [Go.Rx.vi, Go.Rx.vb, Go.Rx.vstr, rxc, rxo, zC, Nat.reduceLeDiff, ↓reduceIte, Nat.reduceEqDiff, Nat.reduceAdd, Nat.reduceMul, Nat.reducePow, Int.reduceToNat, Int.reducePow, R50_19, e1, e3]
      refine WC_bloop 5 (fun m e h' => ∃ (i : Nat), m = css.length - i ∧ i ≤ css.length ∧ mayR (ps.take i) = true ∧ e.g 1 = .pointer (some ⟨h.next, 0, none⟩) ∧ e.g 3 = .int .i64 ps.length ∧ e.g 4 = .int .i64 i ∧ GrowP h2 h')
        (fun e h' => mayR ps = true ∧ GrowP h2 h') ?_ ?_ ?_
      · refine ⟨_, 0, rfl, by omega, by simp [mayR], ?_, ?_, ?_, .refl _⟩
        · simp (maxSteps := 2000000) (disch := first | omega | assumption | (simp only [zA]; done) | (simp only [zB] <;> omega) | fail) only [Go.Rx.vi, Go.Rx.vb, Go.Rx.vstr, rxc, rxo, zC, Nat.reduceLeDiff, ↓reduceIte, Nat.reduceEqDiff, Nat.reduceAdd, Nat.reduceMul, Nat.reducePow, Int.reduceToNat, Int.reducePow, e1]
        · simp (maxSteps := 2000000) (disch := first | omega | assumption | (simp only [zA]; done) | (simp only [zB] <;> omega) | fail) only [Go.Rx.vi, Go.Rx.vb, Go.Rx.vstr, rxc, rxo, zC, Nat.reduceLeDiff, ↓reduceIte, Nat.reduceEqDiff, Nat.reduceAdd, Nat.reduceMul, Nat.reducePow, Int.reduceToNat, Int.reducePow, e3]
        · simp (maxSteps := 2000000) (disch := first | omega | assumption | (simp only [zA]; done) | (simp only [zB] <;> omega) | fail) only [Go.Rx.vi, Go.Rx.vb, Go.Rx.vstr, rxc, rxo, zC, Nat.reduceLeDiff, ↓reduceIte, Nat.reduceEqDiff, Nat.reduceAdd, Nat.reduceMul, Nat.reducePow, Int.reduceToNat, Int.reducePow]; rfl
      · rintro m e h' ⟨i, rfl, hi, hmi, e1, e3, e4, g⟩
        have b3 : h'.at h.next = _ := (g.at_ _ h1 (by omega)).trans b2
        have r2 := ((q5.gp g2).gp g).r
        have gn := g.next
        simp (maxSteps := 2000000) (disch := first | omega | assumption | (simp only [zA]; done) | (simp only [zB] <;> omega) | fail) only [Go.Rx.vi, Go.Rx.vb, Go.Rx.vstr, rxc, rxo, zC, Nat.reduceLeDiff, ↓reduceIte, Nat.reduceEqDiff, Nat.reduceAdd, Nat.reduceMul, Nat.reducePow, Int.reduceToNat, Int.reducePow, B50_0, R50_20, e3, e4]
        refine WCond_dec (fun hc => ?_) (fun hc => ?_)
        · obtain ⟨p, hp, hpc⟩ := q6.get (i := i) (by omega)
          obtain ⟨p1, p2, p3, pv, pss, p4, p5, p6⟩ := hpc.b
          simp (maxSteps := 2000000) (disch := first | omega | assumption | (simp only [zA]; done) | (simp only [zB] <;> omega) | fail) only [Go.Rx.vi, Go.Rx.vb, Go.Rx.vstr, rxc, rxo, zC, Nat.reduceLeDiff, ↓reduceIte, Nat.reduceEqDiff, Nat.reduceAdd, Nat.reduceMul, Nat.reducePow, Int.reduceToNat, Int.reducePow, R50_21, e1, e3, e4, b3, q4, r2]
          have hps := sizeR_get hp
          refine ih p (List.mem_of_getElem? hp) (by omega) ((hpc.gp g2).gp g) (by omega) ?_
          intro h5 g5
          cases hpm : p.may with
          | false =>
            simp (maxSteps := 2000000) (disch := first | omega | assumption | (simp only [zA]; done) | (simp only [zB] <;> omega) | fail) only [Go.Rx.vi, Go.Rx.vb, Go.Rx.vstr, rxc, rxo, zC, Nat.reduceLeDiff, ↓reduceIte, Nat.reduceEqDiff, Nat.reduceAdd, Nat.reduceMul, Nat.reducePow, Int.reduceToNat, Int.reducePow, R50_22]
            have := hend h5 ((g2.trans g).trans g5)
            have hf : mayR ps = false := by
              cases hmm : mayR ps with
              | false => rfl
              | true => rw [mayR_all.1 hmm p (List.mem_of_getElem? hp)] at hpm; cases hpm
            rw [hf, Bool.and_false] at this
            exact this
          | true =>
            simp (maxSteps := 2000000) (disch := first | omega | assumption | (simp only [zA]; done) | (simp only [zB] <;> omega) | fail) only [Go.Rx.vi, Go.Rx.vb, Go.Rx.vstr, rxc, rxo, zC, Nat.reduceLeDiff, ↓reduceIte, Nat.reduceEqDiff, Nat.reduceAdd, Nat.reduceMul, Nat.reducePow, Int.reduceToNat, Int.reducePow, R50_23, e1, e3, e4]
            refine ⟨_, ?_, i + 1, rfl, by omega, ?_, ?_, g.trans g5⟩
            · omega
            · rw [List.take_add_one, hp, mayR_app, hmi]
              simp [mayR, hpm]
            · simp
        · simp (maxSteps := 2000000) (disch := first | omega | assumption | (simp only [zA]; done) | (simp only [zB] <;> omega) | fail) only [Go.Rx.vi, Go.Rx.vb, Go.Rx.vstr, rxc, rxo, zC, Nat.reduceLeDiff, ↓reduceIte, Nat.reduceEqDiff, Nat.reduceAdd, Nat.reduceMul, Nat.reducePow, Int.reduceToNat, Int.reducePow]
          refine ⟨?_, g⟩
          rw [List.take_of_length_le (by omega)] at hmi
          exact hmi
      · rintro e h' ⟨hmm, g⟩
        simp (maxSteps := 2000000) (disch := first | omega | assumption | (simp only [zA]; done) | (simp only [zB] <;> omega) | fail) only [Go.Rx.vi, Go.Rx.vb, Go.Rx.vstr, rxc, rxo, zC, Nat.reduceLeDiff, ↓reduceIte, Nat.reduceEqDiff, Nat.reduceAdd, Nat.reduceMul, Nat.reducePow, Int.reduceToNat, Int.reducePow, R50_24]
        have := hend h' (g2.trans g)
        rw [hmm, hok, hset'] at this
        simpa using this
  simp (maxSteps := 2000000) (disch := first | omega | assumption | (simp only [zA]; done) | (simp only [zB] <;> omega) | fail) only [Go.Rx.vi, Go.Rx.vb, Go.Rx.vstr, rxc, rxo, zC, Nat.reduceLeDiff, ↓reduceIte, Nat.reduceEqDiff, Nat.reduceAdd, Nat.reduceMul, Nat.reducePow, Int.reduceToNat, Int.reducePow, R50_2, b2, q3]
  by_cases h2k : k = 2
  · simp only [h2k, not_true_eq_false, decide_false]
    simp (maxSteps := 2000000) (disch := first | omega | assumption | (simp only [zA]; done) | (simp only [zB] <;> omega) | fail) only [Go.Rx.vi, Go.Rx.vb, Go.Rx.vstr, rxc, rxo, zC, Nat.reduceLeDiff, ↓reduceIte, Nat.reduceEqDiff, Nat.reduceAdd, Nat.reduceMul, Nat.reducePow, Int.reduceToNat, Int.reducePow]
    refine rest _ (by simp (maxSteps := 2000000) (disch := first | omega | assumption | (simp only [zA]; done) | (simp only [zB] <;> omega) | fail) only [Go.Rx.vi, Go.Rx.vb, Go.Rx.vstr, rxc, rxo, zC, Nat.reduceLeDiff, ↓reduceIte, Nat.reduceEqDiff, Nat.reduceAdd, Nat.reduceMul, Nat.reducePow, Int.reduceToNat, Int.reducePow]) (by simp (maxSteps := 2000000) (disch := first | omega | assumption | (simp only [zA]; done) | (simp only [zB] <;> omega) | fail) only [Go.Rx.vi, Go.Rx.vb, Go.Rx.vstr, rxc, rxo, zC, Nat.reduceLeDiff, ↓reduceIte, Nat.reduceEqDiff, Nat.reduceAdd, Nat.reduceMul, Nat.reducePow, Int.reduceToNat, Int.reducePow]; rw [hpl]) (.inl h2k)
  · simp only [h2k, not_false_eq_true, decide_true]
    simp (maxSteps := 2000000) (disch := first | omega | assumption | (simp only [zA]; done) | (simp only [zB] <;> omega) | fail) only [Go.Rx.vi, Go.Rx.vb, Go.Rx.vstr, rxc, rxo, zC, Nat.reduceLeDiff, ↓reduceIte, Nat.reduceEqDiff, Nat.reduceAdd, Nat.reduceMul, Nat.reducePow, Int.reduceToNat, Int.reducePow, b2, z1, iEqa4 z2]
    refine WCond_dec (fun hs => ?_) (fun hs => ?_)
    · simp (maxSteps := 2000000) (disch := first | omega | assumption | (simp only [zA]; done) | (simp only [zB] <;> omega) | fail) only [Go.Rx.vi, Go.Rx.vb, Go.Rx.vstr, rxc, rxo, zC, Nat.reduceLeDiff, ↓reduceIte, Nat.reduceEqDiff, Nat.reduceAdd, Nat.reduceMul, Nat.reducePow, Int.reduceToNat, Int.reducePow, R50_3]
      have := hend h2 g2
      rw [decide_eq_false h2k, decide_eq_false hs] at this
      simpa using this
    · simp (maxSteps := 2000000) (disch := first | omega | assumption | (simp only [zA]; done) | (simp only [zB] <;> omega) | fail) only [Go.Rx.vi, Go.Rx.vb, Go.Rx.vstr, rxc, rxo, zC, Nat.reduceLeDiff, ↓reduceIte, Nat.reduceEqDiff, Nat.reduceAdd, Nat.reduceMul, Nat.reducePow, Int.reduceToNat, Int.reducePow]
      refine rest _ (by simp (maxSteps := 2000000) (disch := first | omega | assumption | (simp only [zA]; done) | (simp only [zB] <;> omega) | fail) only [Go.Rx.vi, Go.Rx.vb, Go.Rx.vstr, rxc, rxo, zC, Nat.reduceLeDiff, ↓reduceIte, Nat.reduceEqDiff, Nat.reduceAdd, Nat.reduceMul, Nat.reducePow, Int.reduceToNat, Int.reducePow]) (by simp (maxSteps := 2000000) (disch := first | omega | assumption | (simp only [zA]; done) | (simp only [zB] <;> omega) | fail) only [Go.Rx.vi, Go.Rx.vb, Go.Rx.vstr, rxc, rxo, zC, Nat.reduceLeDiff, ↓reduceIte, Nat.reduceEqDiff, Nat.reduceAdd, Nat.reduceMul, Nat.reducePow, Int.reduceToNat, Int.reducePow]; rw [hpl]) (.inr (Decidable.not_not.1 hs))

theorem rcheck_ok (hm : M.Mono) (hO51 : M.O 21 = none) (hF51 : M.F 21 = some A21) (hO55 : M.O 48 = none) (hF55 : M.F 48 = some A48) (hO60 : M.O 49 = none) (hF60 : M.F 49 = some A49) (hO74 : M.O 50 = none) (hF74 : M.F 50 = some A50)
  {r : RegD} {cs : List Value} {h : Heap} {K : KF} (h1 : 1 ≤ h.next) (hr : RegC h r cs) (hk : ∀ h', GrowP h h' → K (.int .i64 r.chk) h') : WF M 21 [.agg ⟨cs⟩] h K := by
  rw [WF_eqT 3 hO51 hF51]
  obtain ⟨q1, q2, q3, v, css, q4, q5, q6⟩ := hr.b
  simp (maxSteps := 2000000) (disch := first | omega | assumption | (simp only [zA]; done) | (simp only [zB] <;> omega) | fail) only [Go.Rx.vi, Go.Rx.vb, Go.Rx.vstr, rxc, rxo, zC, Nat.reduceLeDiff, ↓reduceIte, Nat.reduceEqDiff, Nat.reduceAdd, Nat.reduceMul, Nat.reducePow, Int.reduceToNat, Int.reducePow, A21, R21_0, q1]
  obtain ⟨h2, e2, g2, n2, b2⟩ := boxed h cs 48
  rw [e2]
  unfold RegD.chk at hk
  simp (maxSteps := 2000000) (disch := first | omega | assumption | (simp only [zA]; done) | (simp only [zB] <;> omega) | fail) only [Go.Rx.vi, Go.Rx.vb, Go.Rx.vstr, rxc, rxo, zC, Nat.reduceLeDiff, ↓reduceIte, Nat.reduceEqDiff, Nat.reduceAdd, Nat.reduceMul, Nat.reducePow, Int.reduceToNat, Int.reducePow, R21_1, b2, q1, cut_all q1]
  refine rsize_ok hm hO55 hF55 (by omega) (hr.gp g2) ?_
  intro h3 g3
  have b3 : h3.at h.next = _ := (g3.at_ _ h1 (by omega)).trans b2
  simp (maxSteps := 2000000) (disch := first | omega | assumption | (simp only [zA]; done) | (simp only [zB] <;> omega) | fail) only [Go.Rx.vi, Go.Rx.vb, Go.Rx.vstr, rxc, rxo, zC, Nat.reduceLeDiff, ↓reduceIte, Nat.reduceEqDiff, Nat.reduceAdd, Nat.reduceMul, Nat.reducePow, Int.reduceToNat, Int.reducePow]
  refine WCond_dec (fun hc => ?_) (fun hc => ?_)
  · simp (maxSteps := 2000000) (disch := first | omega | assumption | (simp only [zA]; done) | (simp only [zB] <;> omega) | fail) only [Go.Rx.vi, Go.Rx.vb, Go.Rx.vstr, rxc, rxo, zC, Nat.reduceLeDiff, ↓reduceIte, Nat.reduceEqDiff, Nat.reduceAdd, Nat.reduceMul, Nat.reducePow, Int.reduceToNat, Int.reducePow, R21_2]
    have := hk h3 (g2.trans g3)
    rw [if_pos (by omega)] at this
    exact this
  · simp (maxSteps := 2000000) (disch := first | omega | assumption | (simp only [zA]; done) | (simp only [zB] <;> omega) | fail) only [Go.Rx.vi, Go.Rx.vb, Go.Rx.vstr, rxc, rxo, zC, Nat.reduceLeDiff, ↓reduceIte, Nat.reduceEqDiff, Nat.reduceAdd, Nat.reduceMul, Nat.reducePow, Int.reduceToNat, Int.reducePow, R21_3, b3, q1, cut_all q1]
    rw [if_neg (by omega)] at hk
    refine deep_ok hm hO60 hF60 r (by have := g3.next; omega) (hr.gp (g2.trans g3)) (by omega) ?_
    intro h4 g4
    have b4 : h4.at h.next = _ := (g4.at_ _ h1 (by have := g3.next; omega)).trans b3
    simp (maxSteps := 2000000) (disch := first | omega | assumption | (simp only [zA]; done) | (simp only [zB] <;> omega) | fail) only [Go.Rx.vi, Go.Rx.vb, Go.Rx.vstr, rxc, rxo, zC, Nat.reduceLeDiff, ↓reduceIte, Nat.reduceEqDiff, Nat.reduceAdd, Nat.reduceMul, Nat.reducePow, Int.reduceToNat, Int.reducePow]
    refine WCond_dec (fun hc => ?_) (fun hc => ?_)
    · simp (maxSteps := 2000000) (disch := first | omega | assumption | (simp only [zA]; done) | (simp only [zB] <;> omega) | fail) only [Go.Rx.vi, Go.Rx.vb, Go.Rx.vstr, rxc, rxo, zC, Nat.reduceLeDiff, ↓reduceIte, Nat.reduceEqDiff, Nat.reduceAdd, Nat.reduceMul, Nat.reducePow, Int.reduceToNat, Int.reducePow, R21_4]
      have := hk h4 ((g2.trans g3).trans g4)
      rw [if_pos (by omega)] at this
      exact this
    · simp (maxSteps := 2000000) (disch := first | omega | assumption | (simp only [zA]; done) | (simp only [zB] <;> omega) | fail) only [Go.Rx.vi, Go.Rx.vb, Go.Rx.vstr, rxc, rxo, zC, Nat.reduceLeDiff, ↓reduceIte, Nat.reduceEqDiff, Nat.reduceAdd, Nat.reduceMul, Nat.reducePow, Int.reduceToNat, Int.reducePow, R21_5, b4, q1, cut_all q1]
      rw [if_neg (by omega)] at hk
      refine rmay_ok hm hO74 hF74 r (by have := g3.next; have := g4.next; omega) (hr.gp ((g2.trans g3).trans g4)) (by omega) ?_
      intro h5 g5
      have := hk h5 (((g2.trans g3).trans g4).trans g5)
      cases hmy : r.may with
      | true => simp (maxSteps := 2000000) (disch := first | omega | assumption | (simp only [zA]; done) | (simp only [zB] <;> omega) | fail) only [Go.Rx.vi, Go.Rx.vb, Go.Rx.vstr, rxc, rxo, zC, Nat.reduceLeDiff, ↓reduceIte, Nat.reduceEqDiff, Nat.reduceAdd, Nat.reduceMul, Nat.reducePow, Int.reduceToNat, Int.reducePow, R21_7]; simpa [hmy] using this
      | false => simp (maxSteps := 2000000) (disch := first | omega | assumption | (simp only [zA]; done) | (simp only [zB] <;> omega) | fail) only [Go.Rx.vi, Go.Rx.vb, Go.Rx.vstr, rxc, rxo, zC, Nat.reduceLeDiff, ↓reduceIte, Nat.reduceEqDiff, Nat.reduceAdd, Nat.reduceMul, Nat.reducePow, Int.reduceToNat, Int.reducePow, R21_6]; simpa [hmy] using this
end Go.Rx

namespace Go.Rx
variable {M : Mach}
set_option maxRecDepth 4000
set_option linter.unusedSimpArgs false
set_option linter.unusedVariables false

/-- A row of truth values, read. -/
def BV (h : Heap) (v : Value) (l : List Bool) : Prop := SlV h v (l.map .bool)
theorem BV.gp {h h' : Heap} {v : Value} {l : List Bool} (hs : BV h v l) (g : GrowP h h') : BV h' v l := SlV.gp hs g
theorem BV.r {h : Heap} {v : Value} {l : List Bool} (hs : BV h v l) : (∀ h', iLens v h' = some (.int .i64 l.length, h')) ∧ (∀ h' (k : IntKind) (i : Int), 0 ≤ i → i < l.length → iIxs 1 v (.int k i) h' = some (elP v i.toNat, h')) ∧ (∀ i : Nat, i < l.length → iLoad (elP v i) h = some (.bool (l.getD i false), h)) := by
  obtain ⟨h1, h2, h3⟩ := SlV.r hs
  simp only [List.length_map] at h1 h2 h3
  refine ⟨h1, h2, fun i hi => ?_⟩
  rw [h3 i hi, bools_get hi]; rfl

theorem ext_getD {α : Type} (d : α) {l m : List α} (hl : l.length = m.length) (h : ∀ i, i < l.length → l.getD i d = m.getD i d) : l = m := by
  apply List.ext_getElem hl
  intro i h1 h2
  have := h i h1
  rw [List.getD_eq_getElem?_getD, List.getD_eq_getElem?_getD, List.getElem?_eq_getElem h1, List.getElem?_eq_getElem h2] at this
  exact this
theorem getD_or {a b : List Bool} (hl : a.length = b.length) (i : Nat) : (List.zipWith (· || ·) a b).getD i false = (a.getD i false || b.getD i false) := by
  by_cases hi : i < a.length
  · rw [List.getD_eq_getElem?_getD, List.getElem?_zipWith, List.getD_eq_getElem?_getD, List.getD_eq_getElem?_getD, List.getElem?_eq_getElem hi, List.getElem?_eq_getElem (by omega)]
    rfl
  · rw [List.getD_eq_getElem?_getD, List.getElem?_zipWith, List.getD_eq_getElem?_getD, List.getD_eq_getElem?_getD, List.getElem?_eq_none (by omega), List.getElem?_eq_none (by omega)]
    rfl
theorem either_ok (hO : M.O 79 = none) (hF : M.F 79 = some A79) {va vb : Value} {a b : List Bool} {h : Heap} {K : KF} (h1 : 1 ≤ h.next) (ha : BV h va a) (hb : BV h vb b) (hl : a.length = b.length) (hlen : a.length ≤ 1000000)
  (hk : ∀ v' h', BV h' v' (List.zipWith (· || ·) a b) → GrowP h h' → K v' h') : WF M 79 [va, vb] h K := by
  rw [WF_eqT 7 hO hF]
  have ra := ha.r
  simp (maxSteps := 2000000) (disch := first | omega | assumption | (simp only [zA]; done) | (simp only [zB] <;> omega) | fail) only [Go.Rx.vi, Go.Rx.vb, Go.Rx.vstr, rxc, rxo, zC, Nat.reduceLeDiff, ↓reduceIte, Nat.reduceEqDiff, Nat.reduceAdd, Nat.reduceMul, Nat.reducePow, Int.reduceToNat, Int.reducePow, A79, R79_0, R79_1, ra]
  refine WI_makec h1 (by omega) (by omega) (by omega) (by omega) (by omega) ?_
  intro v2 h2 o2 c2 f2
  have n2 := c2.next
  simp (maxSteps := 2000000) (disch := first | omega | assumption | (simp only [zA]; done) | (simp only [zB] <;> omega) | fail) only [Go.Rx.vi, Go.Rx.vb, Go.Rx.vstr, rxc, rxo, zC, Nat.reduceLeDiff, ↓reduceIte, Nat.reduceEqDiff, Nat.reduceAdd, Nat.reduceMul, Nat.reducePow, Int.reduceToNat, Int.reducePow, R79_2]
  refine WC_bloop 7 (fun m e h' => ∃ (i : Nat) (o : List Bool), m = a.length - i ∧ i ≤ a.length ∧ o.length = a.length ∧ (∀ j, j < i → o.getD j false = (a.getD j false || b.getD j false)) ∧ e.g 0 = va ∧ e.g 1 = vb ∧ e.g 5 = v2 ∧ e.g 6 = .int .i64 i ∧ OwnV h' 4 v2 (o.map .bool) ∧ GrowP h h')
    (fun e h' => ∃ (o : List Bool), o.length = a.length ∧ (∀ j, j < a.length → o.getD j false = (a.getD j false || b.getD j false)) ∧ e.g 5 = v2 ∧ OwnV h' 4 v2 (o.map .bool) ∧ GrowP h h') ?_ ?_ ?_
  · refine ⟨_, 0, List.replicate a.length false, rfl, by omega, by simp, fun j hj => by omega, ?_, ?_, ?_, ?_, ?_, c2⟩
    · simp (maxSteps := 2000000) (disch := first | omega | assumption | (simp only [zA]; done) | (simp only [zB] <;> omega) | fail) only [Go.Rx.vi, Go.Rx.vb, Go.Rx.vstr, rxc, rxo, zC, Nat.reduceLeDiff, ↓reduceIte, Nat.reduceEqDiff, Nat.reduceAdd, Nat.reduceMul, Nat.reducePow, Int.reduceToNat, Int.reducePow]
    · simp (maxSteps := 2000000) (disch := first | omega | assumption | (simp only [zA]; done) | (simp only [zB] <;> omega) | fail) only [Go.Rx.vi, Go.Rx.vb, Go.Rx.vstr, rxc, rxo, zC, Nat.reduceLeDiff, ↓reduceIte, Nat.reduceEqDiff, Nat.reduceAdd, Nat.reduceMul, Nat.reducePow, Int.reduceToNat, Int.reducePow]
    · simp (maxSteps := 2000000) (disch := first | omega | assumption | (simp only [zA]; done) | (simp only [zB] <;> omega) | fail) only [Go.Rx.vi, Go.Rx.vb, Go.Rx.vstr, rxc, rxo, zC, Nat.reduceLeDiff, ↓reduceIte, Nat.reduceEqDiff, Nat.reduceAdd, Nat.reduceMul, Nat.reducePow, Int.reduceToNat, Int.reducePow]
    · simp (maxSteps := 2000000) (disch := first | omega | assumption | (simp only [zA]; done) | (simp only [zB] <;> omega) | fail) only [Go.Rx.vi, Go.Rx.vb, Go.Rx.vstr, rxc, rxo, zC, Nat.reduceLeDiff, ↓reduceIte, Nat.reduceEqDiff, Nat.reduceAdd, Nat.reduceMul, Nat.reducePow, Int.reduceToNat, Int.reducePow]; rfl
    · rw [← bools_rep]; simpa using o2
  · rintro m e h' ⟨i, o, rfl, hi, hol, ho, e0, e1, e5, e6, own, g⟩
    have r1 := (ha.gp g).r
    have r2 := (hb.gp g).r
    have r3 := own.sl.r
    simp only [List.length_map] at r3
    simp (maxSteps := 2000000) (disch := first | omega | assumption | (simp only [zA]; done) | (simp only [zB] <;> omega) | fail) only [Go.Rx.vi, Go.Rx.vb, Go.Rx.vstr, rxc, rxo, zC, Nat.reduceLeDiff, ↓reduceIte, Nat.reduceEqDiff, Nat.reduceAdd, Nat.reduceMul, Nat.reducePow, Int.reduceToNat, Int.reducePow, B79_0, R79_3, e0, e6, r1]
    refine WCond_dec (fun hc => ?_) (fun hc => ?_)
    · have step : ∀ (e : Env) (x : Bool), x = (a.getD i false || b.getD i false) → e.g 0 = va → e.g 1 = vb → e.g 5 = v2 → e.g 6 = .int .i64 i → ∀ h'', OwnV h'' 4 v2 ((o.map .bool).set i (.bool x)) → GrowP h h'' → WB M R79_5 e h'' (BLoopK M (fun m e h' => ∃ (i : Nat) (o : List Bool), m = a.length - i ∧ i ≤ a.length ∧ o.length = a.length ∧ (∀ j, j < i → o.getD j false = (a.getD j false || b.getD j false)) ∧ e.g 0 = va ∧ e.g 1 = vb ∧ e.g 5 = v2 ∧ e.g 6 = .int .i64 i ∧ OwnV h' 4 v2 (o.map .bool) ∧ GrowP h h')
          (a.length - i) 0 (fun e h' => ∃ (o : List Bool), o.length = a.length ∧ (∀ j, j < a.length → o.getD j false = (a.getD j false || b.getD j false)) ∧ e.g 5 = v2 ∧ OwnV h' 4 v2 (o.map .bool) ∧ GrowP h h') (SeqK M (.seq (.reg R79_6) .ret) (FunK [(4, none)] K)) .normal) := by
        intro e x hx e0 e1 e5 e6 h'' own2 g2
        rw [← TE_nil (n := 7) (e := e)]
        simp (maxSteps := 2000000) (disch := first | omega | assumption | (simp only [zA]; done) | (simp only [zB] <;> omega) | fail) only [Go.Rx.vi, Go.Rx.vb, Go.Rx.vstr, rxc, rxo, zC, Nat.reduceLeDiff, ↓reduceIte, Nat.reduceEqDiff, Nat.reduceAdd, Nat.reduceMul, Nat.reducePow, Int.reduceToNat, Int.reducePow, R79_5, e0, e1, e5, e6]
        refine ⟨_, ?_, i + 1, o.set i x, rfl, by omega, by simpa using hol, ?_, ?_, by rw [← bools_set]; exact own2, g2⟩
        · omega
        · intro j hj
          rw [getD_set (by omega)]
          split
          · rename_i hij; rw [← hij, hx]
          · exact ho j (by omega)
        · simp
      simp (maxSteps := 2000000) (disch := first | omega | assumption | (simp only [zA]; done) | (simp only [zB] <;> omega) | fail) only [Go.Rx.vi, Go.Rx.vb, Go.Rx.vstr, rxc, rxo, zC, Nat.reduceLeDiff, ↓reduceIte, Nat.reduceEqDiff, Nat.reduceAdd, Nat.reduceMul, Nat.reducePow, Int.reduceToNat, Int.reducePow, R79_4, e0, e1, e5, e6, r1, r2, r3]
      cases hai : a.getD i false with
      | true =>
        simp (maxSteps := 2000000) (disch := first | omega | assumption | (simp only [zA]; done) | (simp only [zB] <;> omega) | fail) only [Go.Rx.vi, Go.Rx.vb, Go.Rx.vstr, rxc, rxo, zC, Nat.reduceLeDiff, ↓reduceIte, Nat.reduceEqDiff, Nat.reduceAdd, Nat.reduceMul, Nat.reducePow, Int.reduceToNat, Int.reducePow, e0, e1, e5, e6, r3]
        refine WI_storec own (by simp; omega) rfl ?_
        intro h'' own2 c3
        simp (maxSteps := 2000000) (disch := first | omega | assumption | (simp only [zA]; done) | (simp only [zB] <;> omega) | fail) only [Go.Rx.vi, Go.Rx.vb, Go.Rx.vstr, rxc, rxo, zC, Nat.reduceLeDiff, ↓reduceIte, Nat.reduceEqDiff, Nat.reduceAdd, Nat.reduceMul, Nat.reducePow, Int.reduceToNat, Int.reducePow]
        refine step _ true ?_ ?_ ?_ ?_ ?_ h'' own2 (g.chg c3 (by omega))
        · rw [hai, Bool.true_or]
        · simp (maxSteps := 2000000) (disch := first | omega | assumption | (simp only [zA]; done) | (simp only [zB] <;> omega) | fail) only [Go.Rx.vi, Go.Rx.vb, Go.Rx.vstr, rxc, rxo, zC, Nat.reduceLeDiff, ↓reduceIte, Nat.reduceEqDiff, Nat.reduceAdd, Nat.reduceMul, Nat.reducePow, Int.reduceToNat, Int.reducePow, e0]
        · simp (maxSteps := 2000000) (disch := first | omega | assumption | (simp only [zA]; done) | (simp only [zB] <;> omega) | fail) only [Go.Rx.vi, Go.Rx.vb, Go.Rx.vstr, rxc, rxo, zC, Nat.reduceLeDiff, ↓reduceIte, Nat.reduceEqDiff, Nat.reduceAdd, Nat.reduceMul, Nat.reducePow, Int.reduceToNat, Int.reducePow, e1]
        · simp (maxSteps := 2000000) (disch := first | omega | assumption | (simp only [zA]; done) | (simp only [zB] <;> omega) | fail) only [Go.Rx.vi, Go.Rx.vb, Go.Rx.vstr, rxc, rxo, zC, Nat.reduceLeDiff, ↓reduceIte, Nat.reduceEqDiff, Nat.reduceAdd, Nat.reduceMul, Nat.reducePow, Int.reduceToNat, Int.reducePow, e5]
        · simp (maxSteps := 2000000) (disch := first | omega | assumption | (simp only [zA]; done) | (simp only [zB] <;> omega) | fail) only [Go.Rx.vi, Go.Rx.vb, Go.Rx.vstr, rxc, rxo, zC, Nat.reduceLeDiff, ↓reduceIte, Nat.reduceEqDiff, Nat.reduceAdd, Nat.reduceMul, Nat.reducePow, Int.reduceToNat, Int.reducePow, e6]
      | false =>
        simp (maxSteps := 2000000) (disch := first | omega | assumption | (simp only [zA]; done) | (simp only [zB] <;> omega) | fail) only [Go.Rx.vi, Go.Rx.vb, Go.Rx.vstr, rxc, rxo, zC, Nat.reduceLeDiff, ↓reduceIte, Nat.reduceEqDiff, Nat.reduceAdd, Nat.reduceMul, Nat.reducePow, Int.reduceToNat, Int.reducePow, e0, e1, e5, e6, r2, r3]
        refine WI_storec own (by simp; omega) rfl ?_
        intro h'' own2 c3
        simp (maxSteps := 2000000) (disch := first | omega | assumption | (simp only [zA]; done) | (simp only [zB] <;> omega) | fail) only [Go.Rx.vi, Go.Rx.vb, Go.Rx.vstr, rxc, rxo, zC, Nat.reduceLeDiff, ↓reduceIte, Nat.reduceEqDiff, Nat.reduceAdd, Nat.reduceMul, Nat.reducePow, Int.reduceToNat, Int.reducePow]
        refine step _ (b.getD i false) ?_ ?_ ?_ ?_ ?_ h'' own2 (g.chg c3 (by omega))
        · rw [hai, Bool.false_or]
        · simp (maxSteps := 2000000) (disch := first | omega | assumption | (simp only [zA]; done) | (simp only [zB] <;> omega) | fail) only [Go.Rx.vi, Go.Rx.vb, Go.Rx.vstr, rxc, rxo, zC, Nat.reduceLeDiff, ↓reduceIte, Nat.reduceEqDiff, Nat.reduceAdd, Nat.reduceMul, Nat.reducePow, Int.reduceToNat, Int.reducePow, e0]
        · simp (maxSteps := 2000000) (disch := first | omega | assumption | (simp only [zA]; done) | (simp only [zB] <;> omega) | fail) only [Go.Rx.vi, Go.Rx.vb, Go.Rx.vstr, rxc, rxo, zC, Nat.reduceLeDiff, ↓reduceIte, Nat.reduceEqDiff, Nat.reduceAdd, Nat.reduceMul, Nat.reducePow, Int.reduceToNat, Int.reducePow, e1]
        · simp (maxSteps := 2000000) (disch := first | omega | assumption | (simp only [zA]; done) | (simp only [zB] <;> omega) | fail) only [Go.Rx.vi, Go.Rx.vb, Go.Rx.vstr, rxc, rxo, zC, Nat.reduceLeDiff, ↓reduceIte, Nat.reduceEqDiff, Nat.reduceAdd, Nat.reduceMul, Nat.reducePow, Int.reduceToNat, Int.reducePow, e5]
        · simp (maxSteps := 2000000) (disch := first | omega | assumption | (simp only [zA]; done) | (simp only [zB] <;> omega) | fail) only [Go.Rx.vi, Go.Rx.vb, Go.Rx.vstr, rxc, rxo, zC, Nat.reduceLeDiff, ↓reduceIte, Nat.reduceEqDiff, Nat.reduceAdd, Nat.reduceMul, Nat.reducePow, Int.reduceToNat, Int.reducePow, e6]
    · simp (maxSteps := 2000000) (disch := first | omega | assumption | (simp only [zA]; done) | (simp only [zB] <;> omega) | fail) only [Go.Rx.vi, Go.Rx.vb, Go.Rx.vstr, rxc, rxo, zC, Nat.reduceLeDiff, ↓reduceIte, Nat.reduceEqDiff, Nat.reduceAdd, Nat.reduceMul, Nat.reducePow, Int.reduceToNat, Int.reducePow, e5]
      exact ⟨o, hol, fun j hj => ho j (by omega), own, g⟩
  · rintro e h' ⟨o, hol, ho, e5, own, g⟩
    simp (maxSteps := 2000000) (disch := first | omega | assumption | (simp only [zA]; done) | (simp only [zB] <;> omega) | fail) only [Go.Rx.vi, Go.Rx.vb, Go.Rx.vstr, rxc, rxo, zC, Nat.reduceLeDiff, ↓reduceIte, Nat.reduceEqDiff, Nat.reduceAdd, Nat.reduceMul, Nat.reducePow, Int.reduceToNat, Int.reducePow, R79_6, e5]
    have : o = List.zipWith (· || ·) a b := by
      refine ext_getD false (by simp; omega) fun j hj => ?_
      rw [getD_or hl]
      exact ho j (by omega)
    subst this
    exact hk _ _ own.sl g

/-! ### Flags -/
def flg (s : List Int) : List Bool := (List.range 256).map (hasS s)
theorem falses : rl [(256, .bool false)] = (List.replicate 256 false).map Value.bool := by
  show rep 256 (.bool false) [] = _
  rfl
theorem div_two {x : Int} (i : Nat) : x / 2 ^ i / 2 = x / 2 ^ (i + 1) := by
  rw [Int.ediv_ediv_of_nonneg (Int.le_of_lt (Int.pow_pos (by omega))), Int.pow_succ]
theorem stAll {h : Heap} {b : Nat} {t : TypeId} {cs zs : List Value} {n : Nat} (hl : cs.length = n) (ho : allOne cs = true) (hz : zs.length = n := by simp) (hn : 0 < n := by omega) : stM h b 0 (some cs) (some (.cells zs t true)) = some (undef, h.set b (some (.cells cs t true))) := by
  rw [stM_many ho (by rintro rfl; simp at hl; omega) (by omega)]
  simp [hl, ← hz]
theorem bools_one (l : List Bool) : allOne (l.map Value.bool) = true := allOne_of fun x hx => by
  obtain ⟨b, _, rfl⟩ := List.mem_map.1 hx
  rfl
theorem flags_ok (hO : M.O 78 = none) (hF : M.F 78 = some A78) {s : List Int} {h : Heap} {K : KF} (h1 : 1 ≤ h.next) (hl : s.length = 4) (hs : ∀ x ∈ s, 0 ≤ x ∧ x < 18446744073709551616)
  (hk : ∀ h', GrowP h h' → K (.agg ⟨(flg s).map .bool⟩) h') : WF M 78 [.agg ⟨s.map (.int .u64)⟩] h K := by
  rw [WF_eqT 7 hO hF]
  have hl' : (s.map (Value.int .u64)).length = 4 := by rw [List.length_map]; exact hl
  simp (maxSteps := 2000000) (disch := first | omega | assumption | (simp only [zA]; done) | (simp only [zB] <;> omega) | fail) only [Go.Rx.vi, Go.Rx.vb, Go.Rx.vstr, rxc, rxo, zC, Nat.reduceLeDiff, ↓reduceIte, Nat.reduceEqDiff, Nat.reduceAdd, Nat.reduceMul, Nat.reducePow, Int.reduceToNat, Int.reducePow, A78, R78_0, hl', falses]
  obtain ⟨h2, e2, g2, n2, b2⟩ := boxed h (s.map (.int .u64)) 45
  rw [e2]
  obtain ⟨h3, e3, g3, n3, b3⟩ := boxed h2 ((List.replicate 256 false).map Value.bool) 120
  rw [e3]
  simp (maxSteps := 2000000) (disch := first | omega | assumption | (simp only [zA]; done) | (simp only [zB] <;> omega) | fail) only [Go.Rx.vi, Go.Rx.vb, Go.Rx.vstr, rxc, rxo, zC, Nat.reduceLeDiff, ↓reduceIte, Nat.reduceEqDiff, Nat.reduceAdd, Nat.reduceMul, Nat.reducePow, Int.reduceToNat, Int.reducePow, R78_1, falses]
  obtain ⟨h4, e4, g4, n4, b4⟩ := boxed h3 ((List.replicate 256 false).map Value.bool) 120
  rw [e4]
  have b24 : h4.at h.next = _ := ((g3.trans g4).at_ _ h1 (by omega)).trans b2
  have b34 : h4.at (h.next + 1) = some (.cells ((List.replicate 256 false).map Value.bool) 120 true) := by rw [← n2, g4.at_ _ (by omega) (by omega)]; exact b3
  simp (maxSteps := 2000000) (disch := first | omega | assumption | (simp only [zA]; done) | (simp only [zB] <;> omega) | fail) only [Go.Rx.vi, Go.Rx.vb, Go.Rx.vstr, rxc, rxo, zC, Nat.reduceLeDiff, ↓reduceIte, Nat.reduceEqDiff, Nat.reduceAdd, Nat.reduceMul, Nat.reducePow, Int.reduceToNat, Int.reducePow, R78_2]
  refine WC_bloop 7 (fun m e h' => ∃ (b : Nat) (o : List Bool), m = 256 - b ∧ b ≤ 256 ∧ o.length = 256 ∧ (∀ j, j < b → o.getD j false = hasS s j) ∧ e.g 1 = .pointer (some ⟨h.next, 0, none⟩) ∧ e.g 2 = .pointer (some ⟨h.next + 1, 0, none⟩) ∧ e.g 3 = .pointer (some ⟨h3.next, 0, none⟩) ∧ e.g 4 = .int .i64 b ∧ h'.at h3.next = some (.cells (o.map .bool) 120 true) ∧ Chg h3.next h4 h')
    (fun e h' => ∃ (o : List Bool), o.length = 256 ∧ (∀ j, j < 256 → o.getD j false = hasS s j) ∧ e.g 2 = .pointer (some ⟨h.next + 1, 0, none⟩) ∧ e.g 3 = .pointer (some ⟨h3.next, 0, none⟩) ∧ h'.at h3.next = some (.cells (o.map .bool) 120 true) ∧ Chg h3.next h4 h') ?_ ?_ ?_
  · refine ⟨_, 0, List.replicate 256 false, rfl, by omega, by simp, fun j hj => by omega, ?_, ?_, ?_, ?_, b4, .refl _ _⟩
    · simp (maxSteps := 2000000) (disch := first | omega | assumption | (simp only [zA]; done) | (simp only [zB] <;> omega) | fail) only [Go.Rx.vi, Go.Rx.vb, Go.Rx.vstr, rxc, rxo, zC, Nat.reduceLeDiff, ↓reduceIte, Nat.reduceEqDiff, Nat.reduceAdd, Nat.reduceMul, Nat.reducePow, Int.reduceToNat, Int.reducePow]
    · simp (maxSteps := 2000000) (disch := first | omega | assumption | (simp only [zA]; done) | (simp only [zB] <;> omega) | fail) only [Go.Rx.vi, Go.Rx.vb, Go.Rx.vstr, rxc, rxo, zC, Nat.reduceLeDiff, ↓reduceIte, Nat.reduceEqDiff, Nat.reduceAdd, Nat.reduceMul, Nat.reducePow, Int.reduceToNat, Int.reducePow]
    · simp (maxSteps := 2000000) (disch := first | omega | assumption | (simp only [zA]; done) | (simp only [zB] <;> omega) | fail) only [Go.Rx.vi, Go.Rx.vb, Go.Rx.vstr, rxc, rxo, zC, Nat.reduceLeDiff, ↓reduceIte, Nat.reduceEqDiff, Nat.reduceAdd, Nat.reduceMul, Nat.reducePow, Int.reduceToNat, Int.reducePow]
    · simp (maxSteps := 2000000) (disch := first | omega | assumption | (simp only [zA]; done) | (simp only [zB] <;> omega) | fail) only [Go.Rx.vi, Go.Rx.vb, Go.Rx.vstr, rxc, rxo, zC, Nat.reduceLeDiff, ↓reduceIte, Nat.reduceEqDiff, Nat.reduceAdd, Nat.reduceMul, Nat.reducePow, Int.reduceToNat, Int.reducePow]; rfl
  · rintro m e h' ⟨b, o, rfl, hb, hol, ho, e1, e2, e3, e4, bo, c⟩
    have d2 : h'.at h.next = _ := (c.at_ _ (by omega) (by omega)).trans b24
    simp (maxSteps := 2000000) (disch := first | omega | assumption | (simp only [zA]; done) | (simp only [zB] <;> omega) | fail) only [Go.Rx.vi, Go.Rx.vb, Go.Rx.vstr, rxc, rxo, zC, Nat.reduceLeDiff, ↓reduceIte, Nat.reduceEqDiff, Nat.reduceAdd, Nat.reduceMul, Nat.reducePow, Int.reduceToNat, Int.reducePow, B78_0, R78_3, e4]
    refine WCond_dec (fun hc => ?_) (fun hc => ?_)
    · have hq : b / 64 < s.length := by omega
      have hgc : s.getD (b / 64) 0 ∈ s := by
        rw [List.getD_eq_getElem?_getD, List.getElem?_eq_getElem hq]
        exact List.getElem_mem hq
      have hgb := hs _ hgc
      have f1 : ((b : Int).tdiv 64) = ((b / 64 : Nat) : Int) := by rw [Int.tdiv_eq_ediv_of_nonneg (by omega)]; omega
      have f2 : ((b : Int).tmod 64) = ((b % 64 : Nat) : Int) := by rw [Int.tmod_eq_emod_of_nonneg (by omega)]; omega
      have f3 : (s.map (Value.int .u64))[b / 64]? = some (.int .u64 (s.getD (b / 64) 0)) := ints_get hq
      generalize hx : s.getD (b / 64) 0 = x at *
      simp (maxSteps := 2000000) (disch := first | omega | assumption | (simp only [zA]; done) | (simp only [zB] <;> omega) | fail) only [Go.Rx.vi, Go.Rx.vb, Go.Rx.vstr, rxc, rxo, zC, Nat.reduceLeDiff, ↓reduceIte, Nat.reduceEqDiff, Nat.reduceAdd, Nat.reduceMul, Nat.reducePow, Int.reduceToNat, Int.reducePow, R78_4, e1, e2, e3, e4, f1, d2, f3, R78_5]
      refine WC_bloop 7 (fun m e h'' => ∃ (i : Nat), m = b % 64 - i ∧ i ≤ b % 64 ∧ e.g 1 = .pointer (some ⟨h.next, 0, none⟩) ∧ e.g 2 = .pointer (some ⟨h.next + 1, 0, none⟩) ∧ e.g 3 = .pointer (some ⟨h3.next, 0, none⟩) ∧ e.g 4 = .int .i64 b ∧ e.g 5 = .int .u64 (x / 2 ^ i) ∧ e.g 6 = .int .i64 i ∧ h'' = h')
        (fun e h'' => e.g 1 = .pointer (some ⟨h.next, 0, none⟩) ∧ e.g 2 = .pointer (some ⟨h.next + 1, 0, none⟩) ∧ e.g 3 = .pointer (some ⟨h3.next, 0, none⟩) ∧ e.g 4 = .int .i64 b ∧ e.g 5 = .int .u64 (x / 2 ^ (b % 64)) ∧ h'' = h') ?_ ?_ ?_
      · refine ⟨_, 0, rfl, by omega, ?_, ?_, ?_, ?_, ?_, ?_, rfl⟩
        · simp (maxSteps := 2000000) (disch := first | omega | assumption | (simp only [zA]; done) | (simp only [zB] <;> omega) | fail) only [Go.Rx.vi, Go.Rx.vb, Go.Rx.vstr, rxc, rxo, zC, Nat.reduceLeDiff, ↓reduceIte, Nat.reduceEqDiff, Nat.reduceAdd, Nat.reduceMul, Nat.reducePow, Int.reduceToNat, Int.reducePow, e1]
        · simp (maxSteps := 2000000) (disch := first | omega | assumption | (simp only [zA]; done) | (simp only [zB] <;> omega) | fail) only [Go.Rx.vi, Go.Rx.vb, Go.Rx.vstr, rxc, rxo, zC, Nat.reduceLeDiff, ↓reduceIte, Nat.reduceEqDiff, Nat.reduceAdd, Nat.reduceMul, Nat.reducePow, Int.reduceToNat, Int.reducePow, e2]
        · simp (maxSteps := 2000000) (disch := first | omega | assumption | (simp only [zA]; done) | (simp only [zB] <;> omega) | fail) only [Go.Rx.vi, Go.Rx.vb, Go.Rx.vstr, rxc, rxo, zC, Nat.reduceLeDiff, ↓reduceIte, Nat.reduceEqDiff, Nat.reduceAdd, Nat.reduceMul, Nat.reducePow, Int.reduceToNat, Int.reducePow, e3]
        · simp (maxSteps := 2000000) (disch := first | omega | assumption | (simp only [zA]; done) | (simp only [zB] <;> omega) | fail) only [Go.Rx.vi, Go.Rx.vb, Go.Rx.vstr, rxc, rxo, zC, Nat.reduceLeDiff, ↓reduceIte, Nat.reduceEqDiff, Nat.reduceAdd, Nat.reduceMul, Nat.reducePow, Int.reduceToNat, Int.reducePow, e4]
        · simp (maxSteps := 2000000) (disch := first | omega | assumption | (simp only [zA]; done) | (simp only [zB] <;> omega) | fail) only [Go.Rx.vi, Go.Rx.vb, Go.Rx.vstr, rxc, rxo, zC, Nat.reduceLeDiff, ↓reduceIte, Nat.reduceEqDiff, Nat.reduceAdd, Nat.reduceMul, Nat.reducePow, Int.reduceToNat, Int.reducePow]; simp
        · simp (maxSteps := 2000000) (disch := first | omega | assumption | (simp only [zA]; done) | (simp only [zB] <;> omega) | fail) only [Go.Rx.vi, Go.Rx.vb, Go.Rx.vstr, rxc, rxo, zC, Nat.reduceLeDiff, ↓reduceIte, Nat.reduceEqDiff, Nat.reduceAdd, Nat.reduceMul, Nat.reducePow, Int.reduceToNat, Int.reducePow]; rfl
      · rintro m e h'' ⟨i, rfl, hi, e1, e2, e3, e4, e5, e6, rfl⟩
        simp (maxSteps := 2000000) (disch := first | omega | assumption | (simp only [zA]; done) | (simp only [zB] <;> omega) | fail) only [Go.Rx.vi, Go.Rx.vb, Go.Rx.vstr, rxc, rxo, zC, Nat.reduceLeDiff, ↓reduceIte, Nat.reduceEqDiff, Nat.reduceAdd, Nat.reduceMul, Nat.reducePow, Int.reduceToNat, Int.reducePow, B78_1, R78_6, e4, e6, f2]
        have x0 : 0 ≤ x / 2 ^ i := Int.ediv_nonneg hgb.1 (Int.le_of_lt (Int.pow_pos (by omega)))
        have x1 : x / 2 ^ i < 18446744073709551616 := Int.lt_of_le_of_lt (Int.ediv_le_self _ hgb.1) hgb.2
        have x2 : (x / 2 ^ i).tdiv 2 = x / 2 ^ (i + 1) := by rw [Int.tdiv_eq_ediv_of_nonneg x0, div_two]
        have x3 : 0 ≤ x / 2 ^ (i + 1) := Int.ediv_nonneg hgb.1 (Int.le_of_lt (Int.pow_pos (by omega)))
        have x4 : x / 2 ^ (i + 1) < 18446744073709551616 := Int.lt_of_le_of_lt (Int.ediv_le_self _ hgb.1) hgb.2
        refine WCond_dec (fun hc2 => ?_) (fun hc2 => ?_)
        · simp (maxSteps := 2000000) (disch := first | omega | assumption | (simp only [zA]; done) | (simp only [zB] <;> omega) | fail) only [Go.Rx.vi, Go.Rx.vb, Go.Rx.vstr, rxc, rxo, zC, Nat.reduceLeDiff, ↓reduceIte, Nat.reduceEqDiff, Nat.reduceAdd, Nat.reduceMul, Nat.reducePow, Int.reduceToNat, Int.reducePow, R78_7, R78_8, e1, e2, e3, e4, e5, e6, x2]
          refine ⟨_, ?_, i + 1, rfl, by omega, ?_⟩
          · omega
          · simp
        · simp (maxSteps := 2000000) (disch := first | omega | assumption | (simp only [zA]; done) | (simp only [zB] <;> omega) | fail) only [Go.Rx.vi, Go.Rx.vb, Go.Rx.vstr, rxc, rxo, zC, Nat.reduceLeDiff, ↓reduceIte, Nat.reduceEqDiff, Nat.reduceAdd, Nat.reduceMul, Nat.reducePow, Int.reduceToNat, Int.reducePow, e1, e2, e3, e4, e5]
          have : i = b % 64 := by omega
          rw [this]
      · rintro e h'' ⟨e1, e2, e3, e4, e5, rfl⟩
        have x0 : 0 ≤ x / 2 ^ (b % 64) := Int.ediv_nonneg hgb.1 (Int.le_of_lt (Int.pow_pos (by omega)))
        have x2 : (x / 2 ^ (b % 64)).tmod 2 = x / 2 ^ (b % 64) % 2 := Int.tmod_eq_emod_of_nonneg x0
        have hob : b < (o.map Value.bool).length := by rw [List.length_map]; omega
        simp (maxSteps := 2000000) (disch := first | omega | assumption | (simp only [zA]; done) | (simp only [zB] <;> omega) | fail) only [Go.Rx.vi, Go.Rx.vb, Go.Rx.vstr, rxc, rxo, zC, Nat.reduceLeDiff, ↓reduceIte, Nat.reduceEqDiff, Nat.reduceAdd, Nat.reduceMul, Nat.reducePow, Int.reduceToNat, Int.reducePow, R78_9, e1, e2, e3, e4, e5, x2, bo, stM_one]
        simp (maxSteps := 2000000) (disch := first | omega | assumption | (simp only [zA]; done) | (simp only [zB] <;> omega) | fail) only [Go.Rx.vi, Go.Rx.vb, Go.Rx.vstr, rxc, rxo, zC, Nat.reduceLeDiff, ↓reduceIte, Nat.reduceEqDiff, Nat.reduceAdd, Nat.reduceMul, Nat.reducePow, Int.reduceToNat, Int.reducePow, R78_10, e1, e2, e3, e4]
        refine ⟨_, ?_, b + 1, o.set b (decide (x / 2 ^ (b % 64) % 2 = 1)), rfl, by omega, by simpa using hol, ?_, ?_, ?_, c.trans .set⟩
        · omega
        · intro j hj
          rw [getD_set (by omega)]
          split
          · rename_i hij
            subst hij
            unfold hasS
            rw [hx]
          · exact ho j (by omega)
        · simp
        · rw [bools_set]
    · simp (maxSteps := 2000000) (disch := first | omega | assumption | (simp only [zA]; done) | (simp only [zB] <;> omega) | fail) only [Go.Rx.vi, Go.Rx.vb, Go.Rx.vstr, rxc, rxo, zC, Nat.reduceLeDiff, ↓reduceIte, Nat.reduceEqDiff, Nat.reduceAdd, Nat.reduceMul, Nat.reducePow, Int.reduceToNat, Int.reducePow, e2, e3]
      have hb' : b = 256 := by omega
      subst hb'
      exact ⟨o, hol, ho, bo, c⟩
  · rintro e h' ⟨o, hol, ho, e2, e3, bo, c⟩
    have d3 : h'.at (h.next + 1) = _ := (c.at_ _ (by omega) (by omega)).trans b34
    have hof : o = flg s := by
      refine ext_getD false (by simp [flg, hol]) fun j hj => ?_
      rw [ho j (by omega), flg, getD_map (d' := 0) (by simp; omega)]
      congr 1
      rw [List.getD_eq_getElem?_getD, List.getElem?_eq_getElem (by simp; omega)]
      simp
    have l1 : (o.map Value.bool).length = 256 := by rw [List.length_map]; exact hol
    have g2' : GrowP h h' := ((g2.trans g3).trans g4).chg c (by omega)
    simp (maxSteps := 2000000) (disch := first | omega | assumption | (simp only [zA]; done) | (simp only [zB] <;> omega) | fail) only [Go.Rx.vi, Go.Rx.vb, Go.Rx.vstr, rxc, rxo, zC, Nat.reduceLeDiff, ↓reduceIte, Nat.reduceEqDiff, Nat.reduceAdd, Nat.reduceMul, Nat.reducePow, Int.reduceToNat, Int.reducePow, R78_11, e2, e3, bo, d3, l1, cut_all l1, stAll (zs := (List.replicate 256 false).map Value.bool) l1 (bools_one o)]
    subst hof
    refine ⟨.agg ⟨(flg s).map .bool⟩, ?_, hk _ (g2'.chg (Chg.set (w := h.next + 1)) (by right; omega))⟩
    have e2' : (TE 7 [(28, Value.agg ⟨List.map Value.bool (flg s)⟩)] e).g 2 = .pointer (some ⟨h.next + 1, 0, none⟩) := by simp (maxSteps := 2000000) (disch := first | omega | assumption | (simp only [zA]; done) | (simp only [zB] <;> omega) | fail) only [Go.Rx.vi, Go.Rx.vb, Go.Rx.vstr, rxc, rxo, zC, Nat.reduceLeDiff, ↓reduceIte, Nat.reduceEqDiff, Nat.reduceAdd, Nat.reduceMul, Nat.reducePow, Int.reduceToNat, Int.reducePow, e2]
    simp only [resV, resL, res1, e2', iLoadn_ptr, at_set_same, rdB_cells, cut_all l1]
    rfl
end Go.Rx
