/- Contracts of functions of the given program, over the abstract machine. -/
import Derived.Test.YtabhplelhjcdiaaRhC
import Derived.Test.YtabhplelhjcdiaaRxSl2
namespace Go.Rx
noncomputable section
set_option linter.unusedVariables false
set_option linter.unusedSimpArgs false

variable {M : Mach}

/-- The place of an element of several cells. -/
def elQ (sz : Nat) : Value → Nat → Value
  | .slice (some a) _ _, i => .pointer (some ⟨a.block, a.off + i * sz, none⟩)
  | _, _ => undef

/-- A slice whose elements, of sz cells each, can be read. -/
def SlN (t : TypeId) (sz : Nat) (h : Heap) (v : Value) (css : List (List Value)) : Prop :=
  bno v < h.next ∧ (∀ c ∈ css, c.length = sz) ∧ ((v = .slice none 0 0 ∧ css = []) ∨ ∃ b off sp c cs e rw, v = .slice (some ⟨b, off, sp⟩) css.length c ∧ 1 ≤ b ∧ h.at b = some (.cells cs e rw) ∧ (sp = none → e = t) ∧ css.length ≤ c ∧ cut cs off (css.length * sz) = some css.flatten)
/-- A slice of one's own. -/
def OwnN (t : TypeId) (sz : Nat) (h : Heap) (v : Value) (css : List (List Value)) : Prop :=
  bno v < h.next ∧ (∀ c ∈ css, c.length = sz) ∧ ((v = .slice none 0 0 ∧ css = []) ∨ ∃ b c rest, v = .slice (some ⟨b, 0, none⟩) css.length c ∧ 1 ≤ b ∧ h.at b = some (.cells (css.flatten ++ rest) t true) ∧ css.length * sz + rest.length = c * sz ∧ css.length ≤ c)

theorem flatN {sz : Nat} {css : List (List Value)} (h : ∀ c ∈ css, c.length = sz) : css.flatten.length = css.length * sz := flat_len css h
/-- A part of what was cut out. -/
theorem cut_cut {cs l : List Value} {off n o m : Nat} (h : cut cs off n = some l) (hm : o + m ≤ n) : cut cs (off + o) m = some ((l.drop o).take m) := by
  rw [cut_eq] at h ⊢
  by_cases hle : n ≤ cs.length - off
  · rw [if_pos hle] at h
    cases h
    rw [if_pos (by omega)]
    congr 1
    rw [List.drop_take, List.drop_drop, List.take_take, Nat.min_eq_left (by omega)]
  · rw [if_neg hle] at h
    cases h

theorem OwnN.sl {t : TypeId} {sz : Nat} {h : Heap} {v : Value} {css : List (List Value)} (ho : OwnN t sz h v css) : SlN t sz h v css := by
  obtain ⟨h0, hl, h1 | ⟨b, c, rest, h1, h2, h3, h4, h5⟩⟩ := ho
  · exact ⟨h0, hl, .inl h1⟩
  · refine ⟨h0, hl, .inr ⟨b, 0, none, c, _, _, _, h1, h2, h3, fun _ => rfl, h5, ?_⟩⟩
    rw [cut_ok (by simp [flatN hl])]
    simp [← flatN hl]
theorem SlN.chg {t : TypeId} {sz w : Nat} {h h' : Heap} {v : Value} {css : List (List Value)} (hs : SlN t sz h v css) (c : Chg w h h') (hne : bno v ≠ w ∨ bno v = 0) : SlN t sz h' v css := by
  obtain ⟨h0, hl, h1 | ⟨b, off, sp, c', cs, e, rw', h1, h2, h3, h4, h5, h6⟩⟩ := hs
  · exact ⟨by have := c.next; omega, hl, .inl h1⟩
  · have hbn : bno v = b := by rw [h1]; rfl
    exact ⟨by have := c.next; omega, hl, .inr ⟨b, off, sp, c', cs, e, rw', h1, h2, by rw [c.at_ b (by omega) (by omega)]; exact h3, h4, h5, h6⟩⟩
theorem OwnN.chg {t : TypeId} {sz w : Nat} {h h' : Heap} {v : Value} {css : List (List Value)} (hs : OwnN t sz h v css) (c : Chg w h h') (hne : bno v ≠ w ∨ bno v = 0) : OwnN t sz h' v css := by
  obtain ⟨h0, hl, h1 | ⟨b, c', rest, h1, h2, h3, h4⟩⟩ := hs
  · exact ⟨by have := c.next; omega, hl, .inl h1⟩
  · have hbn : bno v = b := by rw [h1]; rfl
    exact ⟨by have := c.next; omega, hl, .inr ⟨b, c', rest, h1, h2, by rw [c.at_ b (by omega) (by omega)]; exact h3, h4⟩⟩
theorem SlN.gp {t : TypeId} {sz : Nat} {h h' : Heap} {v : Value} {css : List (List Value)} (hs : SlN t sz h v css) (g : GrowP h h') : SlN t sz h' v css := hs.chg g.c (by omega)
theorem OwnN.gp {t : TypeId} {sz : Nat} {h h' : Heap} {v : Value} {css : List (List Value)} (hs : OwnN t sz h v css) (g : GrowP h h') : OwnN t sz h' v css := hs.chg g.c (by omega)

theorem SlN.isSl {t : TypeId} {sz : Nat} {h : Heap} {v : Value} {css : List (List Value)} (hs : SlN t sz h v css) : OneC v := by
  obtain ⟨_, _, ⟨rfl, _⟩ | ⟨b, off, sp, c, cs, e, rw', rfl, _⟩⟩ := hs <;> rfl
theorem SlN.len {t : TypeId} {sz : Nat} {h : Heap} {v : Value} {css : List (List Value)} (hs : SlN t sz h v css) {h' : Heap} : iLens v h' = some (.int .i64 css.length, h') := by
  obtain ⟨_, _, ⟨h1, h2⟩ | ⟨b, off, sp, c, cs, e, rw', h1, _⟩⟩ := hs
  · rw [h1, h2]; rfl
  · rw [h1]; rfl
theorem SlN.ix {t : TypeId} {sz : Nat} {h : Heap} {v : Value} {css : List (List Value)} (hs : SlN t sz h v css) {h' : Heap} {k : IntKind} {i : Int} (h0 : 0 ≤ i) (h1 : i < css.length) : iIxs sz v (.int k i) h' = some (elQ sz v i.toNat, h') := by
  obtain ⟨_, _, ⟨h2, h3⟩ | ⟨b, off, sp, c, cs, e, rw', h2, _⟩⟩ := hs
  · rw [h3] at h1; simp at h1; omega
  · rw [h2, iIxs_ok h0 h1]; rfl
theorem flat_cut {sz : Nat} {css : List (List Value)} (hl : ∀ c ∈ css, c.length = sz) {i : Nat} (hi : i < css.length) : (css.flatten.drop (i * sz)).take sz = css.getD i [] := by
  have hc : css[i]? = some (css.getD i []) := by simp [hi]
  have hcl : (css.getD i []).length = sz := hl _ (List.mem_of_getElem? hc)
  apply List.ext_getElem?
  intro j
  rw [List.getElem?_take]
  split
  · rename_i hj
    rw [List.getElem?_drop, flat_get css i j _ hl hc hj]
  · rename_i hj
    rw [List.getElem?_eq_none (by omega)]
theorem SlN.load {t : TypeId} {sz : Nat} {h : Heap} {v : Value} {css : List (List Value)} (hs : SlN t sz h v css) {i : Nat} (h1 : i < css.length) : iLoadn (elQ sz v i) sz h = some (.agg ⟨css.getD i []⟩, h) := by
  obtain ⟨_, hl, ⟨h2, h3⟩ | ⟨b, off, sp, c, cs, e, rw', h2, hb1, h3, h4, h5, h6⟩⟩ := hs
  · rw [h3] at h1; simp at h1
  · rw [h2]
    show aggR h (rdB (off + i * sz) sz (h.at b)) = _
    have : (i + 1) * sz ≤ css.length * sz := Nat.mul_le_mul_right _ h1
    rw [Nat.add_mul, Nat.one_mul] at this
    rw [h3, rdB_cells, cut_cut h6 this, flat_cut hl h1]
    rfl
/-- Its length, its elements' places, what lies there. -/
theorem SlN.r {t : TypeId} {sz : Nat} {h : Heap} {v : Value} {css : List (List Value)} (hs : SlN t sz h v css) : (∀ h', iLens v h' = some (.int .i64 css.length, h')) ∧ (∀ h' (k : IntKind) (i : Int), 0 ≤ i → i < css.length → iIxs sz v (.int k i) h' = some (elQ sz v i.toNat, h')) ∧ (∀ i : Nat, i < css.length → iLoadn (elQ sz v i) sz h = some (.agg ⟨css.getD i []⟩, h)) :=
  ⟨fun _ => hs.len, fun _ _ _ => hs.ix, fun _ => hs.load⟩

/-- xs[:n] -/
theorem SlN.cutTo {t : TypeId} {sz : Nat} {h : Heap} {v : Value} {css : List (List Value)} (hs : SlN t sz h v css) {k : IntKind} {n : Int} (h0 : 0 ≤ n) (hn : n ≤ css.length) :
    ∃ v', sliceV h t sz v none (some (.int k n)) none = some v' ∧ SlN t sz h v' (css.take n.toNat) ∧ bno v' = bno v := by
  obtain ⟨hb, hl, ⟨rfl, rfl⟩ | ⟨b, off, sp, c, cs, e, rw', rfl, hb1, h3, h4, h5, h6⟩⟩ := hs
  · have hn0 : n = 0 := by simp at hn; omega
    subst hn0
    exact ⟨.slice none 0 0, rfl, ⟨hb, by simp, .inl ⟨rfl, rfl⟩⟩, rfl⟩
  · refine ⟨.slice (some ⟨b, off, sp⟩) n.toNat c, ?_, ⟨hb, fun x hx => hl x (List.mem_of_mem_take hx), .inr ⟨b, off, sp, c, cs, e, rw', ?_, hb1, h3, h4, ?_, ?_⟩⟩, rfl⟩
    · unfold sliceV
      simp only [bounds, bound_none, bound_some]
      rw [ix_ok h0 (by omega)]
      have hse : sameE h t ⟨b, off, sp⟩ = true := by
        unfold sameE
        cases sp with
        | some _ => rfl
        | none => simp only [h3, h4 rfl, beq_t]
      simp only [ble_t (show 0 ≤ n.toNat by omega), ble_t (show n.toNat ≤ c by omega), hse, Bool.and_self, cond_true]
      simp
    · rw [List.length_take, Nat.min_eq_left (by omega)]
    · rw [List.length_take]; omega
    · rw [List.length_take, Nat.min_eq_left (by omega)]
      have hle : n.toNat * sz ≤ css.length * sz := Nat.mul_le_mul_right _ (by omega)
      have := cut_cut h6 (o := 0) (m := n.toNat * sz) (by omega)
      rw [Nat.add_zero, List.drop_zero] at this
      rw [this]
      congr 1
      have e1 : css.flatten = (css.take n.toNat).flatten ++ (css.drop n.toNat).flatten := by rw [← List.flatten_append, List.take_append_drop]
      have e2 : (css.take n.toNat).flatten.length = n.toNat * sz := by
        rw [flatN (fun x hx => hl x (List.mem_of_mem_take hx)), List.length_take, Nat.min_eq_left (by omega)]
      rw [e1, List.take_left' e2]
theorem OwnN.cutTo {t : TypeId} {sz : Nat} {h : Heap} {v : Value} {css : List (List Value)} (hs : OwnN t sz h v css) {k : IntKind} {n : Int} (h0 : 0 ≤ n) (hn : n ≤ css.length) :
    ∃ v', sliceV h t sz v none (some (.int k n)) none = some v' ∧ OwnN t sz h v' (css.take n.toNat) ∧ bno v' = bno v := by
  obtain ⟨hb, hl, ⟨rfl, rfl⟩ | ⟨b, c, rest, rfl, hb1, h3, h4, h5⟩⟩ := hs
  · have hn0 : n = 0 := by simp at hn; omega
    subst hn0
    exact ⟨.slice none 0 0, rfl, ⟨hb, by simp, .inl ⟨rfl, rfl⟩⟩, rfl⟩
  · have hlt : ∀ x ∈ css.take n.toNat, x.length = sz := fun x hx => hl x (List.mem_of_mem_take hx)
    have hld : ∀ x ∈ css.drop n.toNat, x.length = sz := fun x hx => hl x (List.mem_of_mem_drop hx)
    refine ⟨.slice (some ⟨b, 0, none⟩) n.toNat c, ?_, ⟨hb, hlt, .inr ⟨b, c, (css.drop n.toNat).flatten ++ rest, ?_, hb1, ?_, ?_, ?_⟩⟩, rfl⟩
    · unfold sliceV
      simp only [bounds, bound_none, bound_some]
      rw [ix_ok h0 (by omega)]
      simp only [ble_t (show 0 ≤ n.toNat by omega), ble_t (show n.toNat ≤ c by omega), sameE, h3, beq_t, Bool.and_self, cond_true]
      simp
    · rw [List.length_take, Nat.min_eq_left (by omega)]
    · rw [← List.append_assoc, ← List.flatten_append, List.take_append_drop]; exact h3
    · rw [List.length_append, flatN hld, ← h4, List.length_take, List.length_drop, Nat.min_eq_left (by omega), ← Nat.add_assoc, ← Nat.add_mul]
      congr 2
      omega
    · rw [List.length_take]; omega

/-- Elements behind one's own. -/
theorem OwnN.app {t : TypeId} {sz : Nat} {h : Heap} {v y : Value} {css new : List (List Value)} {bytes : Nat} (h1 : 1 ≤ h.next) (hsz : 0 < sz) (ho : OwnN t sz h v css) (hn : appNew h sz y = some (new.flatten, new.length)) (hnl : ∀ c ∈ new, c.length = sz) (hone : allOne new.flatten = true) (hb : (css.length + new.length) * (bytes + 1) ≤ 140737488355328) :
    ∃ v' h', appV h t sz bytes v y = some (v', h') ∧ OwnN t sz h' v' (css ++ new) ∧ Chg (bno v) h h' ∧ (bno v' = bno v ∨ h.next ≤ bno v') := by
  unfold appV
  rw [hn]
  simp only
  obtain ⟨h0, hl, ⟨rfl, rfl⟩ | ⟨b, c, rest, rfl, h2, h3, h4, h5⟩⟩ := ho
  · by_cases hm : new.length = 0
    · have : new = [] := List.length_eq_zero_iff.1 hm
      subst this
      exact ⟨.slice none 0 0, h, rfl, ⟨by show 0 < _; omega, by simp, .inl ⟨rfl, rfl⟩⟩, .refl _ _, .inl rfl⟩
    · simp only
      rw [beq_f hm, ble_t (show new.length * (bytes + 1) ≤ limB by unfold limB; simpa using hb)]
      refine ⟨_, _, rfl, ⟨by show h.next < h.next + 1; omega, by simpa using hnl, .inr ⟨h.next, new.length, [], by simp, by omega, by rw [at_new_same]; simp, by simp, by simp⟩⟩, (Chg.refl _ _).new, .inr (Nat.le_refl _)⟩
  · have hbn : bno (.slice (some ⟨b, 0, none⟩) css.length c) = b := rfl
    have hall : ∀ x ∈ css ++ new, x.length = sz := by
      intro x hx
      rcases List.mem_append.1 hx with hx | hx
      · exact hl x hx
      · exact hnl x hx
    simp only
    by_cases hc : css.length + new.length ≤ c
    · rw [ble_t hc]
      simp only [cond_true]
      by_cases hm : new.length = 0
      · have : new = [] := List.length_eq_zero_iff.1 hm
        subst this
        exact ⟨_, h, rfl, ⟨h0, by simpa using hl, .inr ⟨b, c, rest, by simp, h2, by simpa using h3, by simpa using h4, by simpa using h5⟩⟩, .refl _ _, .inl rfl⟩
      · rw [beq_f hm]
        simp only [cond_false]
        have hfl : new.flatten.length = new.length * sz := flatN hnl
        have hcl : css.flatten.length = css.length * sz := flatN hl
        have hpos : 0 < new.length * sz := Nat.mul_pos (by omega) hsz
        have hle : (css.length + new.length) * sz ≤ c * sz := Nat.mul_le_mul_right _ hc
        rw [Nat.add_mul] at hle
        have hw : wrCells h ⟨b, 0 + css.length * sz, none⟩ new.flatten = some (h.set b (some (.cells (css.flatten ++ new.flatten ++ rest.drop (new.length * sz)) t true))) := by
          show wrB h b (0 + css.length * sz) new.flatten (h.at b) = _
          rw [h3]
          show (bif allOne new.flatten then (match setAt (css.flatten ++ rest) (0 + css.length * sz) new.flatten with | some cs' => some (h.set b (some (.cells cs' t true))) | none => none) else none) = _
          rw [hone, setAt_eq, if_neg (fun he => by rw [he] at hfl; simp at hfl; omega), if_pos (by simp only [List.length_append]; omega)]
          simp only [cond_true, Nat.zero_add]
          rw [← hcl, List.take_append_of_le_length (Nat.le_refl _), List.take_length, List.drop_append, List.drop_of_length_le (by omega), List.nil_append, Nat.add_sub_cancel_left, hfl]
        rw [hw]
        refine ⟨_, _, rfl, ⟨h0, hall, .inr ⟨b, c, rest.drop (new.length * sz), by simp, h2, by rw [at_set_same, List.flatten_append], ?_, by simpa using hc⟩⟩, .set, .inl rfl⟩
        rw [List.length_drop, List.length_append, Nat.add_mul]
        omega
    · rw [ble_f hc]
      simp only [cond_false]
      rw [ble_t (show (css.length + new.length) * (bytes + 1) ≤ limB by unfold limB; exact hb)]
      simp only [cond_true]
      have hrd : rdCells h ⟨b, 0, none⟩ (css.length * sz) = some css.flatten := by
        show rdB 0 (css.length * sz) (h.at b) = _
        rw [h3, rdB_cells, cut_ok (by simp [flatN hl]), List.drop_zero, List.take_left' (flatN hl)]
      rw [hrd]
      simp only
      have hg : appGrow h t ⟨b, 0, none⟩ (css.length + new.length) (css.flatten ++ new.flatten) = some (.slice (some ⟨h.next, 0, none⟩) (css.length + new.length) (css.length + new.length), (h.set b none).new (.cells (css.flatten ++ new.flatten) t true)) := by
        unfold appGrow
        simp only [h3, beq_t, cond_true]
      rw [hg]
      refine ⟨_, _, rfl, ⟨by show h.next < h.next + 1; omega, hall, .inr ⟨h.next, css.length + new.length, [], by simp, by omega, ?_, by simp, by simp⟩⟩, Chg.set.new, .inr (Nat.le_refl _)⟩
      have := at_new_same (h := h.set b none) (x := .cells (css.flatten ++ new.flatten) t true)
      simpa using this
theorem appNew_sl {t : TypeId} {sz : Nat} {h : Heap} {v : Value} {css : List (List Value)} (hs : SlN t sz h v css) (hone : allOne css.flatten = true) : appNew h sz v = some (css.flatten, css.length) := by
  obtain ⟨_, hl, ⟨rfl, rfl⟩ | ⟨b, off, sp, c, cs, e, rw', rfl, hb1, h3, h4, h5, h6⟩⟩ := hs
  · rfl
  · show (match rdB off (css.length * sz) (h.at b) with | some l => bif allOne l then some (l, css.length) else none | none => none) = _
    rw [h3, rdB_cells, h6]
    simp only [hone, cond_true]
theorem WI_appn {t : TypeId} {sz : Nat} {h : Heap} {v y : Value} {css new : List (List Value)} {bytes : Nat} (h1 : 1 ≤ h.next) (hsz : 0 < sz) (ho : OwnN t sz h v css) (hy : SlN t sz h y new) (hone : ∀ c ∈ new, ∀ x ∈ c, isAggV x = false) (hb : (css.length + new.length) * (bytes + 1) ≤ 140737488355328) {d : Option Nat} {l : List GI} {e : Env} {K : KB}
    (hk : ∀ v' h', OwnN t sz h' v' (css ++ new) → Chg (bno v) h h' → (bno v' = bno v ∨ h.next ≤ bno v') → WI M (some (v', h')) d l e K) :
    WI M (appV h t sz bytes v y) d l e K := by
  have hal : allOne new.flatten = true := allOne_of (fun x hx => by
    obtain ⟨c, hc, hxc⟩ := List.mem_flatten.1 hx
    exact hone c hc x hxc)
  obtain ⟨v', h', e1, e2, e3, e4⟩ := ho.app (bytes := bytes) h1 hsz (appNew_sl hy hal) hy.2.1 hal hb
  rw [e1]
  exact hk v' h' e2 e3 e4
/-- A row of one's own of one element, written out. -/
theorem own_one {t : TypeId} {sz : Nat} {h : Heap} {cs : List Value} (h1 : 1 ≤ h.next) (hn : cs.length = sz) : OwnN t sz (h.new (.cells cs t true)) (.slice (some ⟨h.next, 0, none⟩) 1 1) [cs] :=
  ⟨by show h.next < h.next + 1; omega, by simpa using hn, .inr ⟨h.next, 1, [], rfl, h1, by rw [at_new_same]; simp, by simp, by simp⟩⟩
/-- append(xs, x) -/
theorem WI_appn1 {t : TypeId} {sz : Nat} {h : Heap} {v : Value} {css : List (List Value)} {c : List Value} {bytes : Nat} (h1 : 1 ≤ h.next) (hsz : 0 < sz) (ho : OwnN t sz h v css) (hc : c.length = sz) (hone : ∀ x ∈ c, isAggV x = false) (hb : (css.length + 1) * (bytes + 1) ≤ 140737488355328) {d : Option Nat} {l : List GI} {e : Env} {K : KB}
    (hk : ∀ v' h', OwnN t sz h' v' (css ++ [c]) → Chg (bno v) h h' → (bno v' = bno v ∨ h.next ≤ bno v') → WI M (some (v', h')) d l e K) :
    WI M (appV (h.new (.cells c t true)) t sz bytes v (.slice (some ⟨h.next, 0, none⟩) 1 1)) d l e K := by
  refine WI_appn (by simp) hsz (ho.gp (Grow.refl h).new.p) (own_one h1 hc).sl (by simpa using hone) (by simpa using hb) ?_
  intro v' h' e1 e2 e3
  refine hk v' h' e1 (Chg.trans ((Chg.refl _ _).new) e2) ?_
  rcases e3 with e3 | e3
  · exact .inl e3
  · right; simp at e3; omega
end
end Go.Rx

namespace Go.Rx
variable {M : Mach}
set_option maxRecDepth 4000
set_option linter.unusedSimpArgs false
set_option linter.unusedVariables false

inductive RegD where
  | mk (k : Int) (s : List Int) (ps : List RegD)

theorem RegD.ind {P : RegD → Prop} (h : ∀ k s ps, (∀ p ∈ ps, P p) → P (.mk k s ps)) (r : RegD) : P r :=
  RegD.rec (motive_1 := P) (motive_2 := fun ps => ∀ p ∈ ps, P p) (fun k s ps ih => h k s ps ih) (fun p hp => by cases hp)
    (fun q qs h1 h2 p hp => by
      rcases List.mem_cons.1 hp with rfl | hp
      · exact h1
      · exact h2 p hp) r

/-- The cells of a pattern. -/
def rgC (k s0 s1 s2 s3 : Int) (v : Value) : List Value := [.int .i64 k, .int .u64 s0, .int .u64 s1, .int .u64 s2, .int .u64 s3, v]

mutual
def RegC (h : Heap) : RegD → List Value → Prop
  | .mk k s ps, cs => ∃ s0 s1 s2 s3 v css, cs = rgC k s0 s1 s2 s3 v ∧ s = [s0, s1, s2, s3] ∧ (-9223372036854775808 ≤ k ∧ k ≤ 9223372036854775807) ∧ (∀ x ∈ s, 0 ≤ x ∧ x < 18446744073709551616) ∧ SlN 48 6 h v css ∧ RegL h ps css ∧ ps.length ≤ 9223372036854775807
def RegL (h : Heap) : List RegD → List (List Value) → Prop
  | [], css => css = []
  | p :: ps, css => ∃ c cs, css = c :: cs ∧ RegC h p c ∧ RegL h ps cs
end

theorem RegL.iff {h : Heap} : ∀ {ps : List RegD} {css : List (List Value)}, RegL h ps css ↔ css.length = ps.length ∧ ∀ (i : Nat) p, ps[i]? = some p → RegC h p (css.getD i [])
  | [], css => by
    rw [RegL]
    constructor
    · rintro rfl; exact ⟨rfl, fun i p hp => by simp at hp⟩
    · rintro ⟨h1, _⟩; exact List.length_eq_zero_iff.1 h1
  | p :: ps, css => by
    rw [RegL]
    constructor
    · rintro ⟨c, cs, rfl, h1, h2⟩
      obtain ⟨h3, h4⟩ := RegL.iff.1 h2
      refine ⟨by simp [h3], fun i q hq => ?_⟩
      cases i with
      | zero => simp at hq; subst hq; simpa using h1
      | succ i => simp at hq; simpa using h4 i q hq
    · rintro ⟨h1, h2⟩
      cases css with
      | nil => simp at h1
      | cons c cs =>
        refine ⟨c, cs, rfl, by simpa using h2 0 p rfl, RegL.iff.2 ⟨by simpa using h1, fun i q hq => by simpa using h2 (i + 1) q (by simpa using hq)⟩⟩
theorem RegC.len {h : Heap} {r : RegD} {cs : List Value} (hr : RegC h r cs) : cs.length = 6 ∧ ∀ x ∈ cs, isAggV x = false := by
  cases r with
  | mk k s ps =>
    rw [RegC] at hr
    obtain ⟨s0, s1, s2, s3, v, css, rfl, _, _, _, hv, _⟩ := hr
    refine ⟨rfl, fun x hx => ?_⟩
    have := hv.isSl
    simp [rgC] at hx
    rcases hx with rfl | rfl | rfl | rfl | rfl | rfl
    · rfl
    · rfl
    · rfl
    · rfl
    · rfl
    · exact this
theorem RegC.gp {h h' : Heap} (g : GrowP h h') (r : RegD) : ∀ {cs : List Value}, RegC h r cs → RegC h' r cs := by
  refine RegD.ind (P := fun r => ∀ {cs : List Value}, RegC h r cs → RegC h' r cs) ?_ r
  intro k s ps ih cs hr
  rw [RegC] at hr ⊢
  obtain ⟨s0, s1, s2, s3, v, css, h1, h2, h3, h4, h5, h6, h7⟩ := hr
  refine ⟨s0, s1, s2, s3, v, css, h1, h2, h3, h4, h5.gp g, ?_, h7⟩
  rw [RegL.iff] at h6 ⊢
  exact ⟨h6.1, fun i p hp => ih p (List.mem_of_getElem? hp) (h6.2 i p hp)⟩
theorem RegL.gp {h h' : Heap} (g : GrowP h h') {ps : List RegD} {css : List (List Value)} (hl : RegL h ps css) : RegL h' ps css := by
  rw [RegL.iff] at hl ⊢
  exact ⟨hl.1, fun i p hp => RegC.gp g p (hl.2 i p hp)⟩
theorem RegL.ones {h : Heap} {ps : List RegD} {css : List (List Value)} (hl : RegL h ps css) : ∀ c ∈ css, c.length = 6 ∧ ∀ x ∈ c, isAggV x = false := by
  intro c hc
  rw [RegL.iff] at hl
  obtain ⟨i, hi⟩ := mem_get hc
  have hlt : i < css.length := (List.getElem?_eq_some_iff.1 hi).1
  have := hl.2 i ps[i] (by simp)
  rw [List.getD_eq_getElem?_getD, hi] at this
  exact RegC.len this
theorem RegL.app {h : Heap} {ps qs : List RegD} {css dss : List (List Value)} (hl : RegL h ps css) (hr : RegL h qs dss) : RegL h (ps ++ qs) (css ++ dss) := by
  induction ps generalizing css with
  | nil => rw [RegL] at hl; subst hl; simpa using hr
  | cons p ps ih =>
    rw [RegL] at hl
    obtain ⟨c, cs, rfl, h1, h2⟩ := hl
    rw [List.cons_append, RegL]
    exact ⟨c, cs ++ dss, rfl, h1, ih h2⟩
theorem RegL.take {h : Heap} {ps : List RegD} {css : List (List Value)} (hl : RegL h ps css) (n : Nat) : RegL h (ps.take n) (css.take n) := by
  induction ps generalizing css n with
  | nil => rw [RegL] at hl; subst hl; simp [RegL]
  | cons p ps ih =>
    rw [RegL] at hl
    obtain ⟨c, cs, rfl, h1, h2⟩ := hl
    cases n with
    | zero => simp [RegL]
    | succ n => rw [List.take_succ_cons, List.take_succ_cons, RegL]; exact ⟨c, _, rfl, h1, ih h2 n⟩
theorem RegL.one {h : Heap} {r : RegD} {cs : List Value} (hr : RegC h r cs) : RegL h [r] [cs] := ⟨cs, [], rfl, hr, rfl⟩

def RegD.kind : RegD → Int | .mk k _ _ => k
def RegD.set : RegD → List Int | .mk _ s _ => s
def RegD.parts : RegD → List RegD | .mk _ _ ps => ps
mutual
def RegD.size : RegD → Nat
  | .mk _ _ ps => 1 + sizeR ps
def sizeR : List RegD → Nat
  | [] => 0
  | p :: ps => p.size + sizeR ps
end
theorem RegD.size_pos (r : RegD) : 1 ≤ r.size := by cases r; rw [RegD.size]; omega
theorem sizeR_app : ∀ (ps qs : List RegD), sizeR (ps ++ qs) = sizeR ps + sizeR qs
  | [], qs => by simp [sizeR]
  | p :: ps, qs => by rw [List.cons_append, sizeR, sizeR, sizeR_app ps qs]; omega
theorem sizeR_len : ∀ (ps : List RegD), ps.length ≤ sizeR ps
  | [] => Nat.zero_le _
  | p :: ps => by rw [sizeR, List.length_cons]; have := sizeR_len ps; have := p.size_pos; omega
theorem sizeR_take (ps : List RegD) (n : Nat) : min (sizeR (ps.take n)) n = min (sizeR ps) n := by
  by_cases h : ps.length ≤ n
  · rw [List.take_of_length_le h]
  · have h1 := sizeR_len (ps.take n)
    have h2 := sizeR_len ps
    rw [List.length_take, Nat.min_eq_left (by omega)] at h1
    omega

/-- What a pattern's cells say of it. -/
theorem RegC.parts {h : Heap} {r : RegD} {cs : List Value} (hr : RegC h r cs) : ∃ s0 s1 s2 s3 v css, cs = rgC r.kind s0 s1 s2 s3 v ∧ r.set = [s0, s1, s2, s3] ∧ (-9223372036854775808 ≤ r.kind ∧ r.kind ≤ 9223372036854775807) ∧ (∀ x ∈ r.set, 0 ≤ x ∧ x < 18446744073709551616) ∧ SlN 48 6 h v css ∧ RegL h r.parts css := by
  cases r with
  | mk k s ps =>
    rw [RegC] at hr
    obtain ⟨s0, s1, s2, s3, v, css, h1, h2, h3, h4, h5, h6, h7⟩ := hr
    exact ⟨s0, s1, s2, s3, v, css, h1, h2, h3, h4, h5, h6⟩
theorem RegC.lenB {h : Heap} {r : RegD} {cs : List Value} (hr : RegC h r cs) : r.parts.length ≤ 9223372036854775807 := by
  cases r with
  | mk k s ps =>
    rw [RegC] at hr
    obtain ⟨s0, s1, s2, s3, v, css, h1, h2, h3, h4, h5, h6, h7⟩ := hr
    exact h7

theorem RegC.b {h : Heap} {r : RegD} {cs : List Value} (hr : RegC h r cs) : cs.length = 6 ∧ allOne cs = true ∧ cs[0]? = some (.int .i64 r.kind) ∧ ∃ v css, cs[5]? = some v ∧ SlN 48 6 h v css ∧ RegL h r.parts css := by
  have hl := hr.len
  obtain ⟨s0, s1, s2, s3, v, css, rfl, hs, hk1, hs1, hv, hl'⟩ := hr.parts
  exact ⟨hl.1, allOne_of hl.2, rfl, v, css, rfl, hv, hl'⟩
theorem boxed (h : Heap) (cs : List Value) (t : TypeId) : ∃ h1, h.new (.cells cs t true) = h1 ∧ GrowP h h1 ∧ h1.next = h.next + 1 ∧ h1.at h.next = some (.cells cs t true) := ⟨_, rfl, (Grow.refl h).new.p, rfl, at_new_same⟩
theorem boxed2 (h : Heap) (zs cs : List Value) (t : TypeId) : ∃ h1, (h.new (.cells zs t true)).set h.next (some (.cells cs t true)) = h1 ∧ GrowP h h1 ∧ h1.next = h.next + 1 ∧ h1.at h.next = some (.cells cs t true) :=
  ⟨_, rfl, ⟨by simp, fun b h1 hb => by rw [at_set_ne (by omega), at_new_lt hb]⟩, rfl, at_set_same⟩
theorem fill6 {e : Env} {a0 a1 a2 a3 a4 a5 : Value} {cs : List Value} (hl : cs.length = 6) {r : List (Nat × Nat × Opd)} : fillQ e [a0, a1, a2, a3, a4, a5] 0 (some cs) r = fillP e cs r := by
  rw [fillQ_many (by rintro rfl; simp at hl) (by simp [hl])]
  simp [hl]
theorem st6 {h : Heap} {b : Nat} {a0 a1 a2 a3 a4 a5 : Value} {t : TypeId} {cs : List Value} (hl : cs.length = 6) (ho : allOne cs = true) : stM h b 0 (some cs) (some (.cells [a0, a1, a2, a3, a4, a5] t true)) = some (undef, h.set b (some (.cells cs t true))) := by
  rw [stM_many ho (by rintro rfl; simp at hl) (by simp [hl])]
  simp [hl]

theorem last_of {α : Type} {l : List α} (h : 0 < l.length) : ∃ init x, l = init ++ [x] ∧ init.length = l.length - 1 := by
  have hne : l ≠ [] := by rintro rfl; simp at h
  exact ⟨l.dropLast, l.getLast hne, (List.dropLast_concat_getLast hne).symm, by simp⟩
theorem RegL.last {h : Heap} {ps : List RegD} {css : List (List Value)} (hl : RegL h ps css) (h0 : 0 < css.length) : ∃ ps' css' p c, ps = ps' ++ [p] ∧ css = css' ++ [c] ∧ RegL h ps' css' ∧ RegC h p c ∧ css'.length = css.length - 1 := by
  have hlen := (RegL.iff.1 hl).1
  obtain ⟨ps', p, rfl, e1⟩ := last_of (l := ps) (by omega)
  obtain ⟨css', c, rfl, e2⟩ := last_of (l := css) h0
  simp at hlen
  refine ⟨ps', css', p, c, rfl, rfl, ?_, ?_, e2⟩
  · have := hl.take ps'.length
    rw [List.take_left' rfl, ← hlen, List.take_left' rfl] at this
    exact this
  · have := (RegL.iff.1 hl).2 ps'.length p (by simp)
    rw [← hlen] at this
    simpa using this

theorem size_ok (hm : M.Mono) (hO : M.O 55 = none) (hF : M.F 55 = some A55) {r : RegD} {cs : List Value} {h : Heap} {K : KF} (h1 : 1 ≤ h.next) (hr : RegC h r cs)
  (hk : ∀ h', GrowP h h' → K (.int .i64 (min r.size 513 : Nat)) h') : WF M 55 [.agg ⟨cs⟩] h K := by
  rw [WF_eqT 7 hO hF]
  obtain ⟨q1, q2, q3, v, css, q4, q5, q6⟩ := hr.b
  simp (maxSteps := 2000000) (disch := first | omega | assumption | (simp only [oneC_int, oneC_bool, oneC_str, oneC_ptr, oneC_sl, oneC_map]; done) | (simp only [List.length_cons, List.length_nil, List.length_set, List.length_map, List.length_replicate, List.length_append, List.length_take, List.length_drop, Int.toNat_natCast] <;> omega) | fail) only [Go.Rx.vi, Go.Rx.vb, Go.Rx.vstr, rxc, rxo, Nat.reduceLeDiff, List.getElem?_cons_zero, List.getElem?_cons_succ, List.length_cons, List.length_nil, List.set_cons_zero, List.set_cons_succ, ↓reduceIte, Bool.not_true, Bool.not_false, true_and, and_true, not_true_eq_false, not_false_eq_true, decide_true, decide_false, Nat.reduceEqDiff, Nat.reduceAdd, Nat.reduceMul, Nat.reducePow, Int.reduceToNat, Int.reducePow, Nat.zero_add, Nat.mul_one, Int.toNat_natCast, A55, R55_0, q1]
  obtain ⟨h2, e2, g2, n2, b2⟩ := boxed h cs 48
  rw [e2]
  simp (maxSteps := 2000000) (disch := first | omega | assumption | (simp only [oneC_int, oneC_bool, oneC_str, oneC_ptr, oneC_sl, oneC_map]; done) | (simp only [List.length_cons, List.length_nil, List.length_set, List.length_map, List.length_replicate, List.length_append, List.length_take, List.length_drop, Int.toNat_natCast] <;> omega) | fail) only [Go.Rx.vi, Go.Rx.vb, Go.Rx.vstr, rxc, rxo, Nat.reduceLeDiff, List.getElem?_cons_zero, List.getElem?_cons_succ, List.length_cons, List.length_nil, List.set_cons_zero, List.set_cons_succ, ↓reduceIte, Bool.not_true, Bool.not_false, true_and, and_true, not_true_eq_false, not_false_eq_true, decide_true, decide_false, Nat.reduceEqDiff, Nat.reduceAdd, Nat.reduceMul, Nat.reducePow, Int.reduceToNat, Int.reducePow, Nat.zero_add, Nat.mul_one, Int.toNat_natCast, R55_1, R55_2, b2, q1, cut_all q1, fill6 q1]
  obtain ⟨h3, e3, g3, n3, b3⟩ := boxed h2 cs 48
  rw [e3]
  have own : OwnN 48 6 h3 (.slice (some ⟨h2.next, 0, none⟩) 1 1) [cs] := by rw [← e3]; exact own_one (by omega) q1
  have g0 := g2.trans g3
  refine WC_bloop 7 (fun m e h' => ∃ (n : Nat) (w : Value) (ds : List RegD) (dss : List (List Value)), m = 513 - n ∧ n ≤ 513 ∧ ds.length ≤ 1 + 513 * n ∧ min (n + sizeR ds) 513 = min r.size 513 ∧ e.g 3 = .int .i64 n ∧ e.g 4 = w ∧ h.next ≤ bno w ∧ OwnN 48 6 h' w dss ∧ RegL h ds dss ∧ GrowP h h')
    (fun e h' => e.g 3 = .int .i64 (min r.size 513 : Nat) ∧ GrowP h h') ?_ ?_ ?_
  · refine ⟨_, 0, .slice (some ⟨h2.next, 0, none⟩) 1 1, [r], [cs], rfl, by omega, by simp, by simp [sizeR], ?_, ?_, ?_, own, .one hr, g0⟩
    · simp (maxSteps := 2000000) (disch := first | omega | assumption | (simp only [oneC_int, oneC_bool, oneC_str, oneC_ptr, oneC_sl, oneC_map]; done) | (simp only [List.length_cons, List.length_nil, List.length_set, List.length_map, List.length_replicate, List.length_append, List.length_take, List.length_drop, Int.toNat_natCast] <;> omega) | fail) only [Go.Rx.vi, Go.Rx.vb, Go.Rx.vstr, rxc, rxo, Nat.reduceLeDiff, List.getElem?_cons_zero, List.getElem?_cons_succ, List.length_cons, List.length_nil, List.set_cons_zero, List.set_cons_succ, ↓reduceIte, Bool.not_true, Bool.not_false, true_and, and_true, not_true_eq_false, not_false_eq_true, decide_true, decide_false, Nat.reduceEqDiff, Nat.reduceAdd, Nat.reduceMul, Nat.reducePow, Int.reduceToNat, Int.reducePow, Nat.zero_add, Nat.mul_one, Int.toNat_natCast]; rfl
    · simp (maxSteps := 2000000) (disch := first | omega | assumption | (simp only [oneC_int, oneC_bool, oneC_str, oneC_ptr, oneC_sl, oneC_map]; done) | (simp only [List.length_cons, List.length_nil, List.length_set, List.length_map, List.length_replicate, List.length_append, List.length_take, List.length_drop, Int.toNat_natCast] <;> omega) | fail) only [Go.Rx.vi, Go.Rx.vb, Go.Rx.vstr, rxc, rxo, Nat.reduceLeDiff, List.getElem?_cons_zero, List.getElem?_cons_succ, List.length_cons, List.length_nil, List.set_cons_zero, List.set_cons_succ, ↓reduceIte, Bool.not_true, Bool.not_false, true_and, and_true, not_true_eq_false, not_false_eq_true, decide_true, decide_false, Nat.reduceEqDiff, Nat.reduceAdd, Nat.reduceMul, Nat.reducePow, Int.reduceToNat, Int.reducePow, Nat.zero_add, Nat.mul_one, Int.toNat_natCast]
    · show h.next ≤ h2.next
      omega
  · rintro m e h' ⟨n, w, ds, dss, rfl, hn, hdl, hsz, e3, e4, hw, own, hl, g⟩
    have hlen := (RegL.iff.1 hl).1
    have r1 := own.sl.r
    have hh1 : 1 ≤ h'.next := Nat.le_trans h1 g.next
    simp (maxSteps := 2000000) (disch := first | omega | assumption | (simp only [oneC_int, oneC_bool, oneC_str, oneC_ptr, oneC_sl, oneC_map]; done) | (simp only [List.length_cons, List.length_nil, List.length_set, List.length_map, List.length_replicate, List.length_append, List.length_take, List.length_drop, Int.toNat_natCast] <;> omega) | fail) only [Go.Rx.vi, Go.Rx.vb, Go.Rx.vstr, rxc, rxo, Nat.reduceLeDiff, List.getElem?_cons_zero, List.getElem?_cons_succ, List.length_cons, List.length_nil, List.set_cons_zero, List.set_cons_succ, ↓reduceIte, Bool.not_true, Bool.not_false, true_and, and_true, not_true_eq_false, not_false_eq_true, decide_true, decide_false, Nat.reduceEqDiff, Nat.reduceAdd, Nat.reduceMul, Nat.reducePow, Int.reduceToNat, Int.reducePow, Nat.zero_add, Nat.mul_one, Int.toNat_natCast, B55_0, R55_3, e3, e4, r1]
    refine WG_dec (fun hc => ?_) (fun hc => ?_)
    · simp (maxSteps := 2000000) (disch := first | omega | assumption | (simp only [oneC_int, oneC_bool, oneC_str, oneC_ptr, oneC_sl, oneC_map]; done) | (simp only [List.length_cons, List.length_nil, List.length_set, List.length_map, List.length_replicate, List.length_append, List.length_take, List.length_drop, Int.toNat_natCast] <;> omega) | fail) only [Go.Rx.vi, Go.Rx.vb, Go.Rx.vstr, rxc, rxo, Nat.reduceLeDiff, List.getElem?_cons_zero, List.getElem?_cons_succ, List.length_cons, List.length_nil, List.set_cons_zero, List.set_cons_succ, ↓reduceIte, Bool.not_true, Bool.not_false, true_and, and_true, not_true_eq_false, not_false_eq_true, decide_true, decide_false, Nat.reduceEqDiff, Nat.reduceAdd, Nat.reduceMul, Nat.reducePow, Int.reduceToNat, Int.reducePow, Nat.zero_add, Nat.mul_one, Int.toNat_natCast, e3, e4]
      refine WCond_dec (fun hn2 => ?_) (fun hn2 => ?_)
      · have hd0 : 0 < dss.length := by omega
        obtain ⟨ds', dss', p, c, rfl, rfl, hl', hp, hd1⟩ := hl.last hd0
        obtain ⟨p1, p2, p3, pv, pss, p4, p5, p6⟩ := hp.b
        have hget : (dss' ++ [c]).getD dss'.length [] = c := by simp
        simp only [List.length_append, List.length_cons, List.length_nil] at r1 hd0 hdl hlen
        have hsub : (((dss'.length + 1 : Nat) : Int) - 1) = (dss'.length : Int) := by omega
        simp (maxSteps := 2000000) (disch := first | omega | assumption | (simp only [oneC_int, oneC_bool, oneC_str, oneC_ptr, oneC_sl, oneC_map]; done) | (simp only [List.length_cons, List.length_nil, List.length_set, List.length_map, List.length_replicate, List.length_append, List.length_take, List.length_drop, Int.toNat_natCast] <;> omega) | fail) only [Go.Rx.vi, Go.Rx.vb, Go.Rx.vstr, rxc, rxo, Nat.reduceLeDiff, List.getElem?_cons_zero, List.getElem?_cons_succ, List.length_cons, List.length_nil, List.set_cons_zero, List.set_cons_succ, ↓reduceIte, Bool.not_true, Bool.not_false, true_and, and_true, not_true_eq_false, not_false_eq_true, decide_true, decide_false, Nat.reduceEqDiff, Nat.reduceAdd, Nat.reduceMul, Nat.reducePow, Int.reduceToNat, Int.reducePow, Nat.zero_add, Nat.mul_one, Int.toNat_natCast, R55_4, e3, e4, r1, hsub, hget, p1, st6 p1 p2]
        obtain ⟨h4, e5, g4, n4, b4⟩ := boxed2 h' [.int .i64 0, .int .u64 0, .int .u64 0, .int .u64 0, .int .u64 0, .slice none 0 0] c 48
        rw [e5]
        have own4 := own.gp g4
        have p54 := p5.gp (g.trans g4)
        have r4 := own4.sl.r
        have r5 := p54.r
        simp only [List.length_append, List.length_cons, List.length_nil] at r4
        refine WC_regd0 hm ?_
        obtain ⟨w', c1, c2, c3⟩ := own4.cutTo (k := .i64) (n := dss'.length) (by omega) (by simp; omega)
        rw [Int.toNat_natCast, List.take_left' rfl] at c2
        obtain ⟨pv', c4, c5, c6⟩ := p54.cutTo (k := .i64) (n := min (pss.length : Int) 513) (by omega) (by omega)
        simp (maxSteps := 2000000) (disch := first | omega | assumption | (simp only [oneC_int, oneC_bool, oneC_str, oneC_ptr, oneC_sl, oneC_map]; done) | (simp only [List.length_cons, List.length_nil, List.length_set, List.length_map, List.length_replicate, List.length_append, List.length_take, List.length_drop, Int.toNat_natCast] <;> omega) | fail) only [Go.Rx.vi, Go.Rx.vb, Go.Rx.vstr, rxc, rxo, Nat.reduceLeDiff, List.getElem?_cons_zero, List.getElem?_cons_succ, List.length_cons, List.length_nil, List.set_cons_zero, List.set_cons_succ, ↓reduceIte, Bool.not_true, Bool.not_false, true_and, and_true, not_true_eq_false, not_false_eq_true, decide_true, decide_false, Nat.reduceEqDiff, Nat.reduceAdd, Nat.reduceMul, Nat.reducePow, Int.reduceToNat, Int.reducePow, Nat.zero_add, Nat.mul_one, Int.toNat_natCast, R55_5, e3, e4, r4, hsub, c1, b4, p4, r5, c4]
        have hm1 : (min (pss.length : Int) 513).toNat = min pss.length 513 := by omega
        have hm2 : pss.take (min pss.length 513) = pss.take 513 := by
          by_cases hle : pss.length ≤ 513
          · rw [Nat.min_eq_left hle, List.take_length, List.take_of_length_le hle]
          · rw [Nat.min_eq_right (by omega)]
        rw [hm1, hm2] at c5
        have hh4 : h'.next < h4.next := by omega
        have hpl := (RegL.iff.1 p6).1
        refine WI_appn (by omega) (by omega) c2 c5 (fun x hx => (p6.ones x (List.mem_of_mem_take hx)).2) (by simp; omega) ?_
        intro w2 h5 o5 g5 b5
        have g45 : GrowP h h5 := (g.trans g4).chg g5 (by right; rw [c3]; omega)
        simp (maxSteps := 2000000) (disch := first | omega | assumption | (simp only [oneC_int, oneC_bool, oneC_str, oneC_ptr, oneC_sl, oneC_map]; done) | (simp only [List.length_cons, List.length_nil, List.length_set, List.length_map, List.length_replicate, List.length_append, List.length_take, List.length_drop, Int.toNat_natCast] <;> omega) | fail) only [Go.Rx.vi, Go.Rx.vb, Go.Rx.vstr, rxc, rxo, Nat.reduceLeDiff, List.getElem?_cons_zero, List.getElem?_cons_succ, List.length_cons, List.length_nil, List.set_cons_zero, List.set_cons_succ, ↓reduceIte, Bool.not_true, Bool.not_false, true_and, and_true, not_true_eq_false, not_false_eq_true, decide_true, decide_false, Nat.reduceEqDiff, Nat.reduceAdd, Nat.reduceMul, Nat.reducePow, Int.reduceToNat, Int.reducePow, Nat.zero_add, Nat.mul_one, Int.toNat_natCast, e3, e4, R55_6]
        refine ⟨_, ?_, n + 1, w2, ds' ++ p.parts.take 513, dss' ++ pss.take 513, rfl, by omega, ?_, ?_, ?_, rfl, ?_, o5, ?_, g45⟩
        · omega
        · have := List.length_take_le 513 p.parts
          simp only [List.length_append]
          omega
        · rw [sizeR_app] at hsz ⊢
          have h9 := sizeR_take p.parts 513
          cases p with
          | mk pk pset pp => simp only [sizeR, RegD.size, RegD.parts] at hsz h9 ⊢; omega
        · show Value.int .i64 ((n : Int) + 1) = _
          simp
        · rcases b5 with b5 | b5
          · omega
          · have := g.next; omega
        · exact hl'.app (p6.take 513)
      · simp (maxSteps := 2000000) (disch := first | omega | assumption | (simp only [oneC_int, oneC_bool, oneC_str, oneC_ptr, oneC_sl, oneC_map]; done) | (simp only [List.length_cons, List.length_nil, List.length_set, List.length_map, List.length_replicate, List.length_append, List.length_take, List.length_drop, Int.toNat_natCast] <;> omega) | fail) only [Go.Rx.vi, Go.Rx.vb, Go.Rx.vstr, rxc, rxo, Nat.reduceLeDiff, List.getElem?_cons_zero, List.getElem?_cons_succ, List.length_cons, List.length_nil, List.set_cons_zero, List.set_cons_succ, ↓reduceIte, Bool.not_true, Bool.not_false, true_and, and_true, not_true_eq_false, not_false_eq_true, decide_true, decide_false, Nat.reduceEqDiff, Nat.reduceAdd, Nat.reduceMul, Nat.reducePow, Int.reduceToNat, Int.reducePow, Nat.zero_add, Nat.mul_one, Int.toNat_natCast, e3, e4]
        refine ⟨?_, g⟩
        have : min r.size 513 = n := by omega
        rw [this]
    · simp (maxSteps := 2000000) (disch := first | omega | assumption | (simp only [oneC_int, oneC_bool, oneC_str, oneC_ptr, oneC_sl, oneC_map]; done) | (simp only [List.length_cons, List.length_nil, List.length_set, List.length_map, List.length_replicate, List.length_append, List.length_take, List.length_drop, Int.toNat_natCast] <;> omega) | fail) only [Go.Rx.vi, Go.Rx.vb, Go.Rx.vstr, rxc, rxo, Nat.reduceLeDiff, List.getElem?_cons_zero, List.getElem?_cons_succ, List.length_cons, List.length_nil, List.set_cons_zero, List.set_cons_succ, ↓reduceIte, Bool.not_true, Bool.not_false, true_and, and_true, not_true_eq_false, not_false_eq_true, decide_true, decide_false, Nat.reduceEqDiff, Nat.reduceAdd, Nat.reduceMul, Nat.reducePow, Int.reduceToNat, Int.reducePow, Nat.zero_add, Nat.mul_one, Int.toNat_natCast, e3, e4]
      refine ⟨?_, g⟩
      have : ds = [] := List.length_eq_zero_iff.1 (by omega)
      subst this
      simp only [sizeR, Nat.add_zero] at hsz
      rw [← hsz, Nat.min_eq_left hn]
  · rintro e h' ⟨e3, g⟩
    simp (maxSteps := 2000000) (disch := first | omega | assumption | (simp only [oneC_int, oneC_bool, oneC_str, oneC_ptr, oneC_sl, oneC_map]; done) | (simp only [List.length_cons, List.length_nil, List.length_set, List.length_map, List.length_replicate, List.length_append, List.length_take, List.length_drop, Int.toNat_natCast] <;> omega) | fail) only [Go.Rx.vi, Go.Rx.vb, Go.Rx.vstr, rxc, rxo, Nat.reduceLeDiff, List.getElem?_cons_zero, List.getElem?_cons_succ, List.length_cons, List.length_nil, List.set_cons_zero, List.set_cons_succ, ↓reduceIte, Bool.not_true, Bool.not_false, true_and, and_true, not_true_eq_false, not_false_eq_true, decide_true, decide_false, Nat.reduceEqDiff, Nat.reduceAdd, Nat.reduceMul, Nat.reducePow, Int.reduceToNat, Int.reducePow, Nat.zero_add, Nat.mul_one, Int.toNat_natCast, R55_7, e3]
    exact hk _ g
end Go.Rx

namespace Go.Rx
variable {M : Mach}
set_option maxRecDepth 4000
set_option linter.unusedSimpArgs false
set_option linter.unusedVariables false

mutual
def RegD.depth : RegD → Nat
  | .mk _ _ ps => depthR ps + 1
def depthR : List RegD → Nat
  | [] => 0
  | p :: ps => max p.depth (depthR ps)
end
theorem depthR_app : ∀ (ps qs : List RegD), depthR (ps ++ qs) = max (depthR ps) (depthR qs)
  | [], qs => by simp [depthR]
  | p :: ps, qs => by rw [List.cons_append, depthR, depthR, depthR_app ps qs]; omega
theorem depthR_take {ps : List RegD} {i : Nat} {p : RegD} (hp : ps[i]? = some p) : depthR (ps.take (i + 1)) = max (depthR (ps.take i)) p.depth := by
  have hi := (List.getElem?_eq_some_iff.1 hp).1
  rw [List.take_add_one, hp, depthR_app]
  simp [depthR]
theorem RegD.depth_eq (r : RegD) : r.depth = depthR r.parts + 1 := by cases r; rw [RegD.depth]; rfl
theorem depth_size : ∀ r : RegD, r.depth ≤ r.size := by
  have h2 : ∀ ps : List RegD, (∀ p ∈ ps, p.depth ≤ p.size) → depthR ps ≤ sizeR ps := by
    intro ps
    induction ps with
    | nil => intro _; exact Nat.le_refl _
    | cons p ps ih =>
      intro h
      rw [depthR, sizeR]
      have := h p (by simp)
      have := ih (fun q hq => h q (by simp [hq]))
      omega
  refine RegD.ind fun k s ps ih => ?_
  rw [RegD.depth, RegD.size]
  have := h2 ps ih
  omega
theorem sizeR_get {ps : List RegD} {i : Nat} {p : RegD} (hp : ps[i]? = some p) : p.size ≤ sizeR ps := by
  induction ps generalizing i with
  | nil => simp at hp
  | cons q ps ih =>
    rw [sizeR]
    cases i with
    | zero => simp at hp; subst hp; omega
    | succ i => have := ih (i := i) (by simpa using hp); omega
theorem RegD.part_lt {r p : RegD} {i : Nat} (hp : r.parts[i]? = some p) : p.size < r.size := by
  cases r with
  | mk k s ps => rw [RegD.size]; have := sizeR_get (ps := ps) hp; omega
theorem RegL.get {h : Heap} {ps : List RegD} {css : List (List Value)} (hl : RegL h ps css) {i : Nat} (hi : i < css.length) : ∃ p, ps[i]? = some p ∧ RegC h p (css.getD i []) := by
  have hlt : i < ps.length := by rw [← (RegL.iff.1 hl).1]; exact hi
  exact ⟨ps[i], by simp, (RegL.iff.1 hl).2 i _ (by simp)⟩

theorem depth_ok (hm : M.Mono) (hO : M.O 60 = none) (hF : M.F 60 = some A60) (r : RegD) : ∀ {cs : List Value} {h : Heap} {K : KF}, 1 ≤ h.next → RegC h r cs → r.size < 4611686018427387904 →
    (∀ h', GrowP h h' → K (.int .i64 r.depth) h') → WF M 60 [.agg ⟨cs⟩] h K := by
  refine RegD.ind (P := fun r => ∀ {cs : List Value} {h : Heap} {K : KF}, 1 ≤ h.next → RegC h r cs → r.size < 4611686018427387904 →
    (∀ h', GrowP h h' → K (.int .i64 r.depth) h') → WF M 60 [.agg ⟨cs⟩] h K) ?_ r
  intro k s ps ih cs h K h1 hr hsz hk
  rw [WF_eqT 7 hO hF]
  obtain ⟨q1, q2, q3, v, css, q4, q5, q6⟩ := hr.b
  rw [RegD.parts] at q6
  rw [RegD.size] at hsz
  simp (maxSteps := 2000000) (disch := first | omega | assumption | (simp only [oneC_int, oneC_bool, oneC_str, oneC_ptr, oneC_sl, oneC_map]; done) | (simp only [List.length_cons, List.length_nil, List.length_set, List.length_map, List.length_replicate, List.length_append, List.length_take, List.length_drop, Int.toNat_natCast] <;> omega) | fail) only [Go.Rx.vi, Go.Rx.vb, Go.Rx.vstr, rxc, rxo, Nat.reduceLeDiff, List.getElem?_cons_zero, List.getElem?_cons_succ, List.length_cons, List.length_nil, List.set_cons_zero, List.set_cons_succ, ↓reduceIte, Bool.not_true, Bool.not_false, true_and, and_true, not_true_eq_false, not_false_eq_true, decide_true, decide_false, Nat.reduceEqDiff, Nat.reduceAdd, Nat.reduceMul, Nat.reducePow, Int.reduceToNat, Int.reducePow, Nat.zero_add, Nat.mul_one, Int.toNat_natCast, A60, R60_0, q1]
  obtain ⟨h2, e2, g2, n2, b2⟩ := boxed h cs 48
  rw [e2]
  have r1 := q5.r
  have hpl := (RegL.iff.1 q6).1
  have hsl := sizeR_len ps
  simp (maxSteps := 2000000) (disch := first | omega | assumption | (simp only [oneC_int, oneC_bool, oneC_str, oneC_ptr, oneC_sl, oneC_map]; done) | (simp only [List.length_cons, List.length_nil, List.length_set, List.length_map, List.length_replicate, List.length_append, List.length_take, List.length_drop, Int.toNat_natCast] <;> omega) | fail) only [Go.Rx.vi, Go.Rx.vb, Go.Rx.vstr, rxc, rxo, Nat.reduceLeDiff, List.getElem?_cons_zero, List.getElem?_cons_succ, List.length_cons, List.length_nil, List.set_cons_zero, List.set_cons_succ, ↓reduceIte, Bool.not_true, Bool.not_false, true_and, and_true, not_true_eq_false, not_false_eq_true, decide_true, decide_false, Nat.reduceEqDiff, Nat.reduceAdd, Nat.reduceMul, Nat.reducePow, Int.reduceToNat, Int.reducePow, Nat.zero_add, Nat.mul_one, Int.toNat_natCast, R60_1, R60_2, b2, q4, r1]
  refine WC_bloop 7 (fun m e h' => ∃ (i : Nat), m = css.length - i ∧ i ≤ css.length ∧ e.g 3 = .int .i64 (depthR (ps.take i) : Nat) ∧ e.g 7 = v ∧ e.g 8 = .int .i64 css.length ∧ e.g 9 = .int .i64 i ∧ GrowP h h')
    (fun e h' => e.g 3 = .int .i64 (depthR ps : Nat) ∧ GrowP h h') ?_ ?_ ?_
  · refine ⟨_, 0, rfl, by omega, ?_, ?_, ?_, ?_, g2⟩
    · simp (maxSteps := 2000000) (disch := first | omega | assumption | (simp only [oneC_int, oneC_bool, oneC_str, oneC_ptr, oneC_sl, oneC_map]; done) | (simp only [List.length_cons, List.length_nil, List.length_set, List.length_map, List.length_replicate, List.length_append, List.length_take, List.length_drop, Int.toNat_natCast] <;> omega) | fail) only [Go.Rx.vi, Go.Rx.vb, Go.Rx.vstr, rxc, rxo, Nat.reduceLeDiff, List.getElem?_cons_zero, List.getElem?_cons_succ, List.length_cons, List.length_nil, List.set_cons_zero, List.set_cons_succ, ↓reduceIte, Bool.not_true, Bool.not_false, true_and, and_true, not_true_eq_false, not_false_eq_true, decide_true, decide_false, Nat.reduceEqDiff, Nat.reduceAdd, Nat.reduceMul, Nat.reducePow, Int.reduceToNat, Int.reducePow, Nat.zero_add, Nat.mul_one, Int.toNat_natCast]; rfl
    · simp (maxSteps := 2000000) (disch := first | omega | assumption | (simp only [oneC_int, oneC_bool, oneC_str, oneC_ptr, oneC_sl, oneC_map]; done) | (simp only [List.length_cons, List.length_nil, List.length_set, List.length_map, List.length_replicate, List.length_append, List.length_take, List.length_drop, Int.toNat_natCast] <;> omega) | fail) only [Go.Rx.vi, Go.Rx.vb, Go.Rx.vstr, rxc, rxo, Nat.reduceLeDiff, List.getElem?_cons_zero, List.getElem?_cons_succ, List.length_cons, List.length_nil, List.set_cons_zero, List.set_cons_succ, ↓reduceIte, Bool.not_true, Bool.not_false, true_and, and_true, not_true_eq_false, not_false_eq_true, decide_true, decide_false, Nat.reduceEqDiff, Nat.reduceAdd, Nat.reduceMul, Nat.reducePow, Int.reduceToNat, Int.reducePow, Nat.zero_add, Nat.mul_one, Int.toNat_natCast]
    · simp (maxSteps := 2000000) (disch := first | omega | assumption | (simp only [oneC_int, oneC_bool, oneC_str, oneC_ptr, oneC_sl, oneC_map]; done) | (simp only [List.length_cons, List.length_nil, List.length_set, List.length_map, List.length_replicate, List.length_append, List.length_take, List.length_drop, Int.toNat_natCast] <;> omega) | fail) only [Go.Rx.vi, Go.Rx.vb, Go.Rx.vstr, rxc, rxo, Nat.reduceLeDiff, List.getElem?_cons_zero, List.getElem?_cons_succ, List.length_cons, List.length_nil, List.set_cons_zero, List.set_cons_succ, ↓reduceIte, Bool.not_true, Bool.not_false, true_and, and_true, not_true_eq_false, not_false_eq_true, decide_true, decide_false, Nat.reduceEqDiff, Nat.reduceAdd, Nat.reduceMul, Nat.reducePow, Int.reduceToNat, Int.reducePow, Nat.zero_add, Nat.mul_one, Int.toNat_natCast]
    · simp (maxSteps := 2000000) (disch := first | omega | assumption | (simp only [oneC_int, oneC_bool, oneC_str, oneC_ptr, oneC_sl, oneC_map]; done) | (simp only [List.length_cons, List.length_nil, List.length_set, List.length_map, List.length_replicate, List.length_append, List.length_take, List.length_drop, Int.toNat_natCast] <;> omega) | fail) only [Go.Rx.vi, Go.Rx.vb, Go.Rx.vstr, rxc, rxo, Nat.reduceLeDiff, List.getElem?_cons_zero, List.getElem?_cons_succ, List.length_cons, List.length_nil, List.set_cons_zero, List.set_cons_succ, ↓reduceIte, Bool.not_true, Bool.not_false, true_and, and_true, not_true_eq_false, not_false_eq_true, decide_true, decide_false, Nat.reduceEqDiff, Nat.reduceAdd, Nat.reduceMul, Nat.reducePow, Int.reduceToNat, Int.reducePow, Nat.zero_add, Nat.mul_one, Int.toNat_natCast]; rfl
  · rintro m e h' ⟨i, rfl, hi, e3, e7, e8, e9, g⟩
    have r2 := (q5.gp g).r
    simp (maxSteps := 2000000) (disch := first | omega | assumption | (simp only [oneC_int, oneC_bool, oneC_str, oneC_ptr, oneC_sl, oneC_map]; done) | (simp only [List.length_cons, List.length_nil, List.length_set, List.length_map, List.length_replicate, List.length_append, List.length_take, List.length_drop, Int.toNat_natCast] <;> omega) | fail) only [Go.Rx.vi, Go.Rx.vb, Go.Rx.vstr, rxc, rxo, Nat.reduceLeDiff, List.getElem?_cons_zero, List.getElem?_cons_succ, List.length_cons, List.length_nil, List.set_cons_zero, List.set_cons_succ, ↓reduceIte, Bool.not_true, Bool.not_false, true_and, and_true, not_true_eq_false, not_false_eq_true, decide_true, decide_false, Nat.reduceEqDiff, Nat.reduceAdd, Nat.reduceMul, Nat.reducePow, Int.reduceToNat, Int.reducePow, Nat.zero_add, Nat.mul_one, Int.toNat_natCast, B60_0, R60_3, e8, e9]
    refine WCond_dec (fun hc => ?_) (fun hc => ?_)
    · obtain ⟨p, hp, hpc⟩ := q6.get (i := i) (by omega)
      obtain ⟨p1, p2, p3, pv, pss, p4, p5, p6⟩ := hpc.b
      simp (maxSteps := 2000000) (disch := first | omega | assumption | (simp only [oneC_int, oneC_bool, oneC_str, oneC_ptr, oneC_sl, oneC_map]; done) | (simp only [List.length_cons, List.length_nil, List.length_set, List.length_map, List.length_replicate, List.length_append, List.length_take, List.length_drop, Int.toNat_natCast] <;> omega) | fail) only [Go.Rx.vi, Go.Rx.vb, Go.Rx.vstr, rxc, rxo, Nat.reduceLeDiff, List.getElem?_cons_zero, List.getElem?_cons_succ, List.length_cons, List.length_nil, List.set_cons_zero, List.set_cons_succ, ↓reduceIte, Bool.not_true, Bool.not_false, true_and, and_true, not_true_eq_false, not_false_eq_true, decide_true, decide_false, Nat.reduceEqDiff, Nat.reduceAdd, Nat.reduceMul, Nat.reducePow, Int.reduceToNat, Int.reducePow, Nat.zero_add, Nat.mul_one, Int.toNat_natCast, R60_4, e3, e7, e8, e9, r2, p1, st6 p1 p2]
      obtain ⟨h4, e5, g4, n4, b4⟩ := boxed2 h' [.int .i64 0, .int .u64 0, .int .u64 0, .int .u64 0, .int .u64 0, .slice none 0 0] (css.getD i []) 48
      rw [e5]
      simp (maxSteps := 2000000) (disch := first | omega | assumption | (simp only [oneC_int, oneC_bool, oneC_str, oneC_ptr, oneC_sl, oneC_map]; done) | (simp only [List.length_cons, List.length_nil, List.length_set, List.length_map, List.length_replicate, List.length_append, List.length_take, List.length_drop, Int.toNat_natCast] <;> omega) | fail) only [Go.Rx.vi, Go.Rx.vb, Go.Rx.vstr, rxc, rxo, Nat.reduceLeDiff, List.getElem?_cons_zero, List.getElem?_cons_succ, List.length_cons, List.length_nil, List.set_cons_zero, List.set_cons_succ, ↓reduceIte, Bool.not_true, Bool.not_false, true_and, and_true, not_true_eq_false, not_false_eq_true, decide_true, decide_false, Nat.reduceEqDiff, Nat.reduceAdd, Nat.reduceMul, Nat.reducePow, Int.reduceToNat, Int.reducePow, Nat.zero_add, Nat.mul_one, Int.toNat_natCast, R60_5, e3, b4, p1, cut_all p1]
      have hps := sizeR_get hp
      refine ih p (List.mem_of_getElem? hp) (by have := g.next; omega) ((hpc.gp g).gp g4) (by omega) ?_
      intro h5 g5
      simp (maxSteps := 2000000) (disch := first | omega | assumption | (simp only [oneC_int, oneC_bool, oneC_str, oneC_ptr, oneC_sl, oneC_map]; done) | (simp only [List.length_cons, List.length_nil, List.length_set, List.length_map, List.length_replicate, List.length_append, List.length_take, List.length_drop, Int.toNat_natCast] <;> omega) | fail) only [Go.Rx.vi, Go.Rx.vb, Go.Rx.vstr, rxc, rxo, Nat.reduceLeDiff, List.getElem?_cons_zero, List.getElem?_cons_succ, List.length_cons, List.length_nil, List.set_cons_zero, List.set_cons_succ, ↓reduceIte, Bool.not_true, Bool.not_false, true_and, and_true, not_true_eq_false, not_false_eq_true, decide_true, decide_false, Nat.reduceEqDiff, Nat.reduceAdd, Nat.reduceMul, Nat.reducePow, Int.reduceToNat, Int.reducePow, Nat.zero_add, Nat.mul_one, Int.toNat_natCast, e3, R60_6, e9]
      refine ⟨_, ?_, i + 1, rfl, by omega, ?_, e7, e8, ?_, (g.trans g4).trans g5⟩
      · omega
      · rw [depthR_take hp]
        congr 1
        omega
      · simp
    · simp (maxSteps := 2000000) (disch := first | omega | assumption | (simp only [oneC_int, oneC_bool, oneC_str, oneC_ptr, oneC_sl, oneC_map]; done) | (simp only [List.length_cons, List.length_nil, List.length_set, List.length_map, List.length_replicate, List.length_append, List.length_take, List.length_drop, Int.toNat_natCast] <;> omega) | fail) only [Go.Rx.vi, Go.Rx.vb, Go.Rx.vstr, rxc, rxo, Nat.reduceLeDiff, List.getElem?_cons_zero, List.getElem?_cons_succ, List.length_cons, List.length_nil, List.set_cons_zero, List.set_cons_succ, ↓reduceIte, Bool.not_true, Bool.not_false, true_and, and_true, not_true_eq_false, not_false_eq_true, decide_true, decide_false, Nat.reduceEqDiff, Nat.reduceAdd, Nat.reduceMul, Nat.reducePow, Int.reduceToNat, Int.reducePow, Nat.zero_add, Nat.mul_one, Int.toNat_natCast, e3]
      refine ⟨?_, g⟩
      rw [List.take_of_length_le (by omega)]
  · rintro e h' ⟨e3, g⟩
    have hdl : depthR ps ≤ sizeR ps := by
      have := depth_size (.mk k s ps)
      rw [RegD.depth, RegD.size] at this
      omega
    simp (maxSteps := 2000000) (disch := first | omega | assumption | (simp only [oneC_int, oneC_bool, oneC_str, oneC_ptr, oneC_sl, oneC_map]; done) | (simp only [List.length_cons, List.length_nil, List.length_set, List.length_map, List.length_replicate, List.length_append, List.length_take, List.length_drop, Int.toNat_natCast] <;> omega) | fail) only [Go.Rx.vi, Go.Rx.vb, Go.Rx.vstr, rxc, rxo, Nat.reduceLeDiff, List.getElem?_cons_zero, List.getElem?_cons_succ, List.length_cons, List.length_nil, List.set_cons_zero, List.set_cons_succ, ↓reduceIte, Bool.not_true, Bool.not_false, true_and, and_true, not_true_eq_false, not_false_eq_true, decide_true, decide_false, Nat.reduceEqDiff, Nat.reduceAdd, Nat.reduceMul, Nat.reducePow, Int.reduceToNat, Int.reducePow, Nat.zero_add, Nat.mul_one, Int.toNat_natCast, R60_7, e3]
    have := hk _ g
    rw [RegD.depth] at this
    simpa using this

/-! ### may -/
def okN (k : Int) (n : Nat) : Bool := decide ((k = 0 ∨ k = 1 ∨ k = 2) ∧ n = 0 ∨ (k = 3 ∨ k = 4) ∧ 1 ≤ n ∨ (k = 5 ∨ k = 6 ∨ k = 7) ∧ n = 1)
mutual
def RegD.may : RegD → Bool
  | .mk k s ps => okN k ps.length && (decide (k = 2) || decide (s = [0, 0, 0, 0])) && mayR ps
def mayR : List RegD → Bool
  | [] => true
  | p :: ps => p.may && mayR ps
end
theorem mayR_app : ∀ (ps qs : List RegD), mayR (ps ++ qs) = (mayR ps && mayR qs)
  | [], qs => by simp [mayR]
  | p :: ps, qs => by rw [List.cons_append, mayR, mayR, mayR_app ps qs, Bool.and_assoc]
theorem mayR_all {ps : List RegD} : mayR ps = true ↔ ∀ p ∈ ps, p.may = true := by
  induction ps with
  | nil => simp [mayR]
  | cons p ps ih => rw [mayR, Bool.and_eq_true, ih]; simp
theorem RegD.may_eq (r : RegD) : r.may = (okN r.kind r.parts.length && (decide (r.kind = 2) || decide (r.set = [0, 0, 0, 0])) && mayR r.parts) := by cases r; rw [RegD.may]; rfl

def X74 : AC := (.seq (.seq (.reg R74_4) (.cond (.t 12) .skip (.seq (.reg R74_5) (.cond (.t 12) .skip (.reg R74_6))))) (.cond (.t 12) (.reg R74_7) (.seq (.seq (.reg R74_8) (.cond (.t 18) .skip (.reg R74_9))) (.cond (.t 18) (.reg R74_10) (.seq (.seq (.reg R74_11) (.cond (.t 23) .skip (.seq (.reg R74_12) (.cond (.t 23) .skip (.reg R74_13))))) (.cond (.t 23) (.reg R74_14) .skip))))))
theorem okN_t {k : Int} {n : Nat} {p : Prop} [Decidable p] (h : ((k = 0 ∨ k = 1 ∨ k = 2) ∧ n = 0 ∨ (k = 3 ∨ k = 4) ∧ 1 ≤ n ∨ (k = 5 ∨ k = 6 ∨ k = 7) ∧ n = 1) ↔ p) : Value.bool (decide p) = .bool (okN k n) := by
  unfold okN
  rw [decide_eq_decide.2 h]
theorem may_switch {k : Int} {n : Nat} {e : Env} {h : Heap} {K : KC} {P : Value} (e1 : e.g 1 = P) (e11 : e.g 11 = .int .i64 k) (e4 : e.g 4 = .int .i64 n) (e3 : e.g 3 = .bool false) (hk : ∀ e', e'.g 1 = P → e'.g 3 = .bool (okN k n) → K .normal (TE 7 [] e') h) : WC M X74 e h K := by
  rw [← TE_nil (n := 7) (e := e)]
  simp (maxSteps := 2000000) (disch := first | omega | assumption | (simp only [oneC_int, oneC_bool, oneC_str, oneC_ptr, oneC_sl, oneC_map]; done) | (simp only [List.length_cons, List.length_nil, List.length_set, List.length_map, List.length_replicate, List.length_append, List.length_take, List.length_drop, Int.toNat_natCast] <;> omega) | fail) only [Go.Rx.vi, Go.Rx.vb, Go.Rx.vstr, rxc, rxo, Nat.reduceLeDiff, List.getElem?_cons_zero, List.getElem?_cons_succ, List.length_cons, List.length_nil, List.set_cons_zero, List.set_cons_succ, ↓reduceIte, Bool.not_true, Bool.not_false, true_and, and_true, not_true_eq_false, not_false_eq_true, decide_true, decide_false, Nat.reduceEqDiff, Nat.reduceAdd, Nat.reduceMul, Nat.reducePow, Int.reduceToNat, Int.reducePow, Nat.zero_add, Nat.mul_one, Int.toNat_natCast, X74, R74_4, R74_5, R74_6, R74_7, R74_8, R74_9, R74_10, R74_11, R74_12, R74_13, R74_14, e11, e4, e3]
  refine WCond_dec (fun h0 => ?_) (fun h0 => ?_)
  · simp (maxSteps := 2000000) (disch := first | omega | assumption | (simp only [oneC_int, oneC_bool, oneC_str, oneC_ptr, oneC_sl, oneC_map]; done) | (simp only [List.length_cons, List.length_nil, List.length_set, List.length_map, List.length_replicate, List.length_append, List.length_take, List.length_drop, Int.toNat_natCast] <;> omega) | fail) only [Go.Rx.vi, Go.Rx.vb, Go.Rx.vstr, rxc, rxo, Nat.reduceLeDiff, List.getElem?_cons_zero, List.getElem?_cons_succ, List.length_cons, List.length_nil, List.set_cons_zero, List.set_cons_succ, ↓reduceIte, Bool.not_true, Bool.not_false, true_and, and_true, not_true_eq_false, not_false_eq_true, decide_true, decide_false, Nat.reduceEqDiff, Nat.reduceAdd, Nat.reduceMul, Nat.reducePow, Int.reduceToNat, Int.reducePow, Nat.zero_add, Nat.mul_one, Int.toNat_natCast, e11, e4, e3]
    refine hk _ (by simp (maxSteps := 2000000) (disch := first | omega | assumption | (simp only [oneC_int, oneC_bool, oneC_str, oneC_ptr, oneC_sl, oneC_map]; done) | (simp only [List.length_cons, List.length_nil, List.length_set, List.length_map, List.length_replicate, List.length_append, List.length_take, List.length_drop, Int.toNat_natCast] <;> omega) | fail) only [Go.Rx.vi, Go.Rx.vb, Go.Rx.vstr, rxc, rxo, Nat.reduceLeDiff, List.getElem?_cons_zero, List.getElem?_cons_succ, List.length_cons, List.length_nil, List.set_cons_zero, List.set_cons_succ, ↓reduceIte, Bool.not_true, Bool.not_false, true_and, and_true, not_true_eq_false, not_false_eq_true, decide_true, decide_false, Nat.reduceEqDiff, Nat.reduceAdd, Nat.reduceMul, Nat.reducePow, Int.reduceToNat, Int.reducePow, Nat.zero_add, Nat.mul_one, Int.toNat_natCast, e1]) ?_
    simp (maxSteps := 2000000) (disch := first | omega | assumption | (simp only [oneC_int, oneC_bool, oneC_str, oneC_ptr, oneC_sl, oneC_map]; done) | (simp only [List.length_cons, List.length_nil, List.length_set, List.length_map, List.length_replicate, List.length_append, List.length_take, List.length_drop, Int.toNat_natCast] <;> omega) | fail) only [Go.Rx.vi, Go.Rx.vb, Go.Rx.vstr, rxc, rxo, Nat.reduceLeDiff, List.getElem?_cons_zero, List.getElem?_cons_succ, List.length_cons, List.length_nil, List.set_cons_zero, List.set_cons_succ, ↓reduceIte, Bool.not_true, Bool.not_false, true_and, and_true, not_true_eq_false, not_false_eq_true, decide_true, decide_false, Nat.reduceEqDiff, Nat.reduceAdd, Nat.reduceMul, Nat.reducePow, Int.reduceToNat, Int.reducePow, Nat.zero_add, Nat.mul_one, Int.toNat_natCast]
    exact okN_t (by omega)
  · simp (maxSteps := 2000000) (disch := first | omega | assumption | (simp only [oneC_int, oneC_bool, oneC_str, oneC_ptr, oneC_sl, oneC_map]; done) | (simp only [List.length_cons, List.length_nil, List.length_set, List.length_map, List.length_replicate, List.length_append, List.length_take, List.length_drop, Int.toNat_natCast] <;> omega) | fail) only [Go.Rx.vi, Go.Rx.vb, Go.Rx.vstr, rxc, rxo, Nat.reduceLeDiff, List.getElem?_cons_zero, List.getElem?_cons_succ, List.length_cons, List.length_nil, List.set_cons_zero, List.set_cons_succ, ↓reduceIte, Bool.not_true, Bool.not_false, true_and, and_true, not_true_eq_false, not_false_eq_true, decide_true, decide_false, Nat.reduceEqDiff, Nat.reduceAdd, Nat.reduceMul, Nat.reducePow, Int.reduceToNat, Int.reducePow, Nat.zero_add, Nat.mul_one, Int.toNat_natCast, e11, e4, e3]
    refine WCond_dec (fun h1 => ?_) (fun h1 => ?_)
    · simp (maxSteps := 2000000) (disch := first | omega | assumption | (simp only [oneC_int, oneC_bool, oneC_str, oneC_ptr, oneC_sl, oneC_map]; done) | (simp only [List.length_cons, List.length_nil, List.length_set, List.length_map, List.length_replicate, List.length_append, List.length_take, List.length_drop, Int.toNat_natCast] <;> omega) | fail) only [Go.Rx.vi, Go.Rx.vb, Go.Rx.vstr, rxc, rxo, Nat.reduceLeDiff, List.getElem?_cons_zero, List.getElem?_cons_succ, List.length_cons, List.length_nil, List.set_cons_zero, List.set_cons_succ, ↓reduceIte, Bool.not_true, Bool.not_false, true_and, and_true, not_true_eq_false, not_false_eq_true, decide_true, decide_false, Nat.reduceEqDiff, Nat.reduceAdd, Nat.reduceMul, Nat.reducePow, Int.reduceToNat, Int.reducePow, Nat.zero_add, Nat.mul_one, Int.toNat_natCast, e11, e4, e3]
      refine hk _ (by simp (maxSteps := 2000000) (disch := first | omega | assumption | (simp only [oneC_int, oneC_bool, oneC_str, oneC_ptr, oneC_sl, oneC_map]; done) | (simp only [List.length_cons, List.length_nil, List.length_set, List.length_map, List.length_replicate, List.length_append, List.length_take, List.length_drop, Int.toNat_natCast] <;> omega) | fail) only [Go.Rx.vi, Go.Rx.vb, Go.Rx.vstr, rxc, rxo, Nat.reduceLeDiff, List.getElem?_cons_zero, List.getElem?_cons_succ, List.length_cons, List.length_nil, List.set_cons_zero, List.set_cons_succ, ↓reduceIte, Bool.not_true, Bool.not_false, true_and, and_true, not_true_eq_false, not_false_eq_true, decide_true, decide_false, Nat.reduceEqDiff, Nat.reduceAdd, Nat.reduceMul, Nat.reducePow, Int.reduceToNat, Int.reducePow, Nat.zero_add, Nat.mul_one, Int.toNat_natCast, e1]) ?_
      simp (maxSteps := 2000000) (disch := first | omega | assumption | (simp only [oneC_int, oneC_bool, oneC_str, oneC_ptr, oneC_sl, oneC_map]; done) | (simp only [List.length_cons, List.length_nil, List.length_set, List.length_map, List.length_replicate, List.length_append, List.length_take, List.length_drop, Int.toNat_natCast] <;> omega) | fail) only [Go.Rx.vi, Go.Rx.vb, Go.Rx.vstr, rxc, rxo, Nat.reduceLeDiff, List.getElem?_cons_zero, List.getElem?_cons_succ, List.length_cons, List.length_nil, List.set_cons_zero, List.set_cons_succ, ↓reduceIte, Bool.not_true, Bool.not_false, true_and, and_true, not_true_eq_false, not_false_eq_true, decide_true, decide_false, Nat.reduceEqDiff, Nat.reduceAdd, Nat.reduceMul, Nat.reducePow, Int.reduceToNat, Int.reducePow, Nat.zero_add, Nat.mul_one, Int.toNat_natCast]
      exact okN_t (by omega)
    · simp (maxSteps := 2000000) (disch := first | omega | assumption | (simp only [oneC_int, oneC_bool, oneC_str, oneC_ptr, oneC_sl, oneC_map]; done) | (simp only [List.length_cons, List.length_nil, List.length_set, List.length_map, List.length_replicate, List.length_append, List.length_take, List.length_drop, Int.toNat_natCast] <;> omega) | fail) only [Go.Rx.vi, Go.Rx.vb, Go.Rx.vstr, rxc, rxo, Nat.reduceLeDiff, List.getElem?_cons_zero, List.getElem?_cons_succ, List.length_cons, List.length_nil, List.set_cons_zero, List.set_cons_succ, ↓reduceIte, Bool.not_true, Bool.not_false, true_and, and_true, not_true_eq_false, not_false_eq_true, decide_true, decide_false, Nat.reduceEqDiff, Nat.reduceAdd, Nat.reduceMul, Nat.reducePow, Int.reduceToNat, Int.reducePow, Nat.zero_add, Nat.mul_one, Int.toNat_natCast, e11, e4, e3]
      refine WCond_dec (fun h2 => ?_) (fun h2 => ?_)
      · simp (maxSteps := 2000000) (disch := first | omega | assumption | (simp only [oneC_int, oneC_bool, oneC_str, oneC_ptr, oneC_sl, oneC_map]; done) | (simp only [List.length_cons, List.length_nil, List.length_set, List.length_map, List.length_replicate, List.length_append, List.length_take, List.length_drop, Int.toNat_natCast] <;> omega) | fail) only [Go.Rx.vi, Go.Rx.vb, Go.Rx.vstr, rxc, rxo, Nat.reduceLeDiff, List.getElem?_cons_zero, List.getElem?_cons_succ, List.length_cons, List.length_nil, List.set_cons_zero, List.set_cons_succ, ↓reduceIte, Bool.not_true, Bool.not_false, true_and, and_true, not_true_eq_false, not_false_eq_true, decide_true, decide_false, Nat.reduceEqDiff, Nat.reduceAdd, Nat.reduceMul, Nat.reducePow, Int.reduceToNat, Int.reducePow, Nat.zero_add, Nat.mul_one, Int.toNat_natCast, e11, e4, e3]
        refine hk _ (by simp (maxSteps := 2000000) (disch := first | omega | assumption | (simp only [oneC_int, oneC_bool, oneC_str, oneC_ptr, oneC_sl, oneC_map]; done) | (simp only [List.length_cons, List.length_nil, List.length_set, List.length_map, List.length_replicate, List.length_append, List.length_take, List.length_drop, Int.toNat_natCast] <;> omega) | fail) only [Go.Rx.vi, Go.Rx.vb, Go.Rx.vstr, rxc, rxo, Nat.reduceLeDiff, List.getElem?_cons_zero, List.getElem?_cons_succ, List.length_cons, List.length_nil, List.set_cons_zero, List.set_cons_succ, ↓reduceIte, Bool.not_true, Bool.not_false, true_and, and_true, not_true_eq_false, not_false_eq_true, decide_true, decide_false, Nat.reduceEqDiff, Nat.reduceAdd, Nat.reduceMul, Nat.reducePow, Int.reduceToNat, Int.reducePow, Nat.zero_add, Nat.mul_one, Int.toNat_natCast, e1]) ?_
        simp (maxSteps := 2000000) (disch := first | omega | assumption | (simp only [oneC_int, oneC_bool, oneC_str, oneC_ptr, oneC_sl, oneC_map]; done) | (simp only [List.length_cons, List.length_nil, List.length_set, List.length_map, List.length_replicate, List.length_append, List.length_take, List.length_drop, Int.toNat_natCast] <;> omega) | fail) only [Go.Rx.vi, Go.Rx.vb, Go.Rx.vstr, rxc, rxo, Nat.reduceLeDiff, List.getElem?_cons_zero, List.getElem?_cons_succ, List.length_cons, List.length_nil, List.set_cons_zero, List.set_cons_succ, ↓reduceIte, Bool.not_true, Bool.not_false, true_and, and_true, not_true_eq_false, not_false_eq_true, decide_true, decide_false, Nat.reduceEqDiff, Nat.reduceAdd, Nat.reduceMul, Nat.reducePow, Int.reduceToNat, Int.reducePow, Nat.zero_add, Nat.mul_one, Int.toNat_natCast]
        exact okN_t (by omega)
      · simp (maxSteps := 2000000) (disch := first | omega | assumption | (simp only [oneC_int, oneC_bool, oneC_str, oneC_ptr, oneC_sl, oneC_map]; done) | (simp only [List.length_cons, List.length_nil, List.length_set, List.length_map, List.length_replicate, List.length_append, List.length_take, List.length_drop, Int.toNat_natCast] <;> omega) | fail) only [Go.Rx.vi, Go.Rx.vb, Go.Rx.vstr, rxc, rxo, Nat.reduceLeDiff, List.getElem?_cons_zero, List.getElem?_cons_succ, List.length_cons, List.length_nil, List.set_cons_zero, List.set_cons_succ, ↓reduceIte, Bool.not_true, Bool.not_false, true_and, and_true, not_true_eq_false, not_false_eq_true, decide_true, decide_false, Nat.reduceEqDiff, Nat.reduceAdd, Nat.reduceMul, Nat.reducePow, Int.reduceToNat, Int.reducePow, Nat.zero_add, Nat.mul_one, Int.toNat_natCast, e11, e4, e3]
        refine WCond_dec (fun h3 => ?_) (fun h3 => ?_)
        · simp (maxSteps := 2000000) (disch := first | omega | assumption | (simp only [oneC_int, oneC_bool, oneC_str, oneC_ptr, oneC_sl, oneC_map]; done) | (simp only [List.length_cons, List.length_nil, List.length_set, List.length_map, List.length_replicate, List.length_append, List.length_take, List.length_drop, Int.toNat_natCast] <;> omega) | fail) only [Go.Rx.vi, Go.Rx.vb, Go.Rx.vstr, rxc, rxo, Nat.reduceLeDiff, List.getElem?_cons_zero, List.getElem?_cons_succ, List.length_cons, List.length_nil, List.set_cons_zero, List.set_cons_succ, ↓reduceIte, Bool.not_true, Bool.not_false, true_and, and_true, not_true_eq_false, not_false_eq_true, decide_true, decide_false, Nat.reduceEqDiff, Nat.reduceAdd, Nat.reduceMul, Nat.reducePow, Int.reduceToNat, Int.reducePow, Nat.zero_add, Nat.mul_one, Int.toNat_natCast, e11, e4, e3]
          refine hk _ (by simp (maxSteps := 2000000) (disch := first | omega | assumption | (simp only [oneC_int, oneC_bool, oneC_str, oneC_ptr, oneC_sl, oneC_map]; done) | (simp only [List.length_cons, List.length_nil, List.length_set, List.length_map, List.length_replicate, List.length_append, List.length_take, List.length_drop, Int.toNat_natCast] <;> omega) | fail) only [Go.Rx.vi, Go.Rx.vb, Go.Rx.vstr, rxc, rxo, Nat.reduceLeDiff, List.getElem?_cons_zero, List.getElem?_cons_succ, List.length_cons, List.length_nil, List.set_cons_zero, List.set_cons_succ, ↓reduceIte, Bool.not_true, Bool.not_false, true_and, and_true, not_true_eq_false, not_false_eq_true, decide_true, decide_false, Nat.reduceEqDiff, Nat.reduceAdd, Nat.reduceMul, Nat.reducePow, Int.reduceToNat, Int.reducePow, Nat.zero_add, Nat.mul_one, Int.toNat_natCast, e1]) ?_
          simp (maxSteps := 2000000) (disch := first | omega | assumption | (simp only [oneC_int, oneC_bool, oneC_str, oneC_ptr, oneC_sl, oneC_map]; done) | (simp only [List.length_cons, List.length_nil, List.length_set, List.length_map, List.length_replicate, List.length_append, List.length_take, List.length_drop, Int.toNat_natCast] <;> omega) | fail) only [Go.Rx.vi, Go.Rx.vb, Go.Rx.vstr, rxc, rxo, Nat.reduceLeDiff, List.getElem?_cons_zero, List.getElem?_cons_succ, List.length_cons, List.length_nil, List.set_cons_zero, List.set_cons_succ, ↓reduceIte, Bool.not_true, Bool.not_false, true_and, and_true, not_true_eq_false, not_false_eq_true, decide_true, decide_false, Nat.reduceEqDiff, Nat.reduceAdd, Nat.reduceMul, Nat.reducePow, Int.reduceToNat, Int.reducePow, Nat.zero_add, Nat.mul_one, Int.toNat_natCast]
          exact okN_t (by omega)
        · simp (maxSteps := 2000000) (disch := first | omega | assumption | (simp only [oneC_int, oneC_bool, oneC_str, oneC_ptr, oneC_sl, oneC_map]; done) | (simp only [List.length_cons, List.length_nil, List.length_set, List.length_map, List.length_replicate, List.length_append, List.length_take, List.length_drop, Int.toNat_natCast] <;> omega) | fail) only [Go.Rx.vi, Go.Rx.vb, Go.Rx.vstr, rxc, rxo, Nat.reduceLeDiff, List.getElem?_cons_zero, List.getElem?_cons_succ, List.length_cons, List.length_nil, List.set_cons_zero, List.set_cons_succ, ↓reduceIte, Bool.not_true, Bool.not_false, true_and, and_true, not_true_eq_false, not_false_eq_true, decide_true, decide_false, Nat.reduceEqDiff, Nat.reduceAdd, Nat.reduceMul, Nat.reducePow, Int.reduceToNat, Int.reducePow, Nat.zero_add, Nat.mul_one, Int.toNat_natCast, e11, e4, e3]
          refine WCond_dec (fun h4 => ?_) (fun h4 => ?_)
          · simp (maxSteps := 2000000) (disch := first | omega | assumption | (simp only [oneC_int, oneC_bool, oneC_str, oneC_ptr, oneC_sl, oneC_map]; done) | (simp only [List.length_cons, List.length_nil, List.length_set, List.length_map, List.length_replicate, List.length_append, List.length_take, List.length_drop, Int.toNat_natCast] <;> omega) | fail) only [Go.Rx.vi, Go.Rx.vb, Go.Rx.vstr, rxc, rxo, Nat.reduceLeDiff, List.getElem?_cons_zero, List.getElem?_cons_succ, List.length_cons, List.length_nil, List.set_cons_zero, List.set_cons_succ, ↓reduceIte, Bool.not_true, Bool.not_false, true_and, and_true, not_true_eq_false, not_false_eq_true, decide_true, decide_false, Nat.reduceEqDiff, Nat.reduceAdd, Nat.reduceMul, Nat.reducePow, Int.reduceToNat, Int.reducePow, Nat.zero_add, Nat.mul_one, Int.toNat_natCast, e11, e4, e3]
            refine hk _ (by simp (maxSteps := 2000000) (disch := first | omega | assumption | (simp only [oneC_int, oneC_bool, oneC_str, oneC_ptr, oneC_sl, oneC_map]; done) | (simp only [List.length_cons, List.length_nil, List.length_set, List.length_map, List.length_replicate, List.length_append, List.length_take, List.length_drop, Int.toNat_natCast] <;> omega) | fail) only [Go.Rx.vi, Go.Rx.vb, Go.Rx.vstr, rxc, rxo, Nat.reduceLeDiff, List.getElem?_cons_zero, List.getElem?_cons_succ, List.length_cons, List.length_nil, List.set_cons_zero, List.set_cons_succ, ↓reduceIte, Bool.not_true, Bool.not_false, true_and, and_true, not_true_eq_false, not_false_eq_true, decide_true, decide_false, Nat.reduceEqDiff, Nat.reduceAdd, Nat.reduceMul, Nat.reducePow, Int.reduceToNat, Int.reducePow, Nat.zero_add, Nat.mul_one, Int.toNat_natCast, e1]) ?_
            simp (maxSteps := 2000000) (disch := first | omega | assumption | (simp only [oneC_int, oneC_bool, oneC_str, oneC_ptr, oneC_sl, oneC_map]; done) | (simp only [List.length_cons, List.length_nil, List.length_set, List.length_map, List.length_replicate, List.length_append, List.length_take, List.length_drop, Int.toNat_natCast] <;> omega) | fail) only [Go.Rx.vi, Go.Rx.vb, Go.Rx.vstr, rxc, rxo, Nat.reduceLeDiff, List.getElem?_cons_zero, List.getElem?_cons_succ, List.length_cons, List.length_nil, List.set_cons_zero, List.set_cons_succ, ↓reduceIte, Bool.not_true, Bool.not_false, true_and, and_true, not_true_eq_false, not_false_eq_true, decide_true, decide_false, Nat.reduceEqDiff, Nat.reduceAdd, Nat.reduceMul, Nat.reducePow, Int.reduceToNat, Int.reducePow, Nat.zero_add, Nat.mul_one, Int.toNat_natCast]
            exact okN_t (by omega)
          · simp (maxSteps := 2000000) (disch := first | omega | assumption | (simp only [oneC_int, oneC_bool, oneC_str, oneC_ptr, oneC_sl, oneC_map]; done) | (simp only [List.length_cons, List.length_nil, List.length_set, List.length_map, List.length_replicate, List.length_append, List.length_take, List.length_drop, Int.toNat_natCast] <;> omega) | fail) only [Go.Rx.vi, Go.Rx.vb, Go.Rx.vstr, rxc, rxo, Nat.reduceLeDiff, List.getElem?_cons_zero, List.getElem?_cons_succ, List.length_cons, List.length_nil, List.set_cons_zero, List.set_cons_succ, ↓reduceIte, Bool.not_true, Bool.not_false, true_and, and_true, not_true_eq_false, not_false_eq_true, decide_true, decide_false, Nat.reduceEqDiff, Nat.reduceAdd, Nat.reduceMul, Nat.reducePow, Int.reduceToNat, Int.reducePow, Nat.zero_add, Nat.mul_one, Int.toNat_natCast, e11, e4, e3]
            refine WCond_dec (fun h5 => ?_) (fun h5 => ?_)
            · simp (maxSteps := 2000000) (disch := first | omega | assumption | (simp only [oneC_int, oneC_bool, oneC_str, oneC_ptr, oneC_sl, oneC_map]; done) | (simp only [List.length_cons, List.length_nil, List.length_set, List.length_map, List.length_replicate, List.length_append, List.length_take, List.length_drop, Int.toNat_natCast] <;> omega) | fail) only [Go.Rx.vi, Go.Rx.vb, Go.Rx.vstr, rxc, rxo, Nat.reduceLeDiff, List.getElem?_cons_zero, List.getElem?_cons_succ, List.length_cons, List.length_nil, List.set_cons_zero, List.set_cons_succ, ↓reduceIte, Bool.not_true, Bool.not_false, true_and, and_true, not_true_eq_false, not_false_eq_true, decide_true, decide_false, Nat.reduceEqDiff, Nat.reduceAdd, Nat.reduceMul, Nat.reducePow, Int.reduceToNat, Int.reducePow, Nat.zero_add, Nat.mul_one, Int.toNat_natCast, e11, e4, e3]
              refine hk _ (by simp (maxSteps := 2000000) (disch := first | omega | assumption | (simp only [oneC_int, oneC_bool, oneC_str, oneC_ptr, oneC_sl, oneC_map]; done) | (simp only [List.length_cons, List.length_nil, List.length_set, List.length_map, List.length_replicate, List.length_append, List.length_take, List.length_drop, Int.toNat_natCast] <;> omega) | fail) only [Go.Rx.vi, Go.Rx.vb, Go.Rx.vstr, rxc, rxo, Nat.reduceLeDiff, List.getElem?_cons_zero, List.getElem?_cons_succ, List.length_cons, List.length_nil, List.set_cons_zero, List.set_cons_succ, ↓reduceIte, Bool.not_true, Bool.not_false, true_and, and_true, not_true_eq_false, not_false_eq_true, decide_true, decide_false, Nat.reduceEqDiff, Nat.reduceAdd, Nat.reduceMul, Nat.reducePow, Int.reduceToNat, Int.reducePow, Nat.zero_add, Nat.mul_one, Int.toNat_natCast, e1]) ?_
              simp (maxSteps := 2000000) (disch := first | omega | assumption | (simp only [oneC_int, oneC_bool, oneC_str, oneC_ptr, oneC_sl, oneC_map]; done) | (simp only [List.length_cons, List.length_nil, List.length_set, List.length_map, List.length_replicate, List.length_append, List.length_take, List.length_drop, Int.toNat_natCast] <;> omega) | fail) only [Go.Rx.vi, Go.Rx.vb, Go.Rx.vstr, rxc, rxo, Nat.reduceLeDiff, List.getElem?_cons_zero, List.getElem?_cons_succ, List.length_cons, List.length_nil, List.set_cons_zero, List.set_cons_succ, ↓reduceIte, Bool.not_true, Bool.not_false, true_and, and_true, not_true_eq_false, not_false_eq_true, decide_true, decide_false, Nat.reduceEqDiff, Nat.reduceAdd, Nat.reduceMul, Nat.reducePow, Int.reduceToNat, Int.reducePow, Nat.zero_add, Nat.mul_one, Int.toNat_natCast]
              exact okN_t (by omega)
            · simp (maxSteps := 2000000) (disch := first | omega | assumption | (simp only [oneC_int, oneC_bool, oneC_str, oneC_ptr, oneC_sl, oneC_map]; done) | (simp only [List.length_cons, List.length_nil, List.length_set, List.length_map, List.length_replicate, List.length_append, List.length_take, List.length_drop, Int.toNat_natCast] <;> omega) | fail) only [Go.Rx.vi, Go.Rx.vb, Go.Rx.vstr, rxc, rxo, Nat.reduceLeDiff, List.getElem?_cons_zero, List.getElem?_cons_succ, List.length_cons, List.length_nil, List.set_cons_zero, List.set_cons_succ, ↓reduceIte, Bool.not_true, Bool.not_false, true_and, and_true, not_true_eq_false, not_false_eq_true, decide_true, decide_false, Nat.reduceEqDiff, Nat.reduceAdd, Nat.reduceMul, Nat.reducePow, Int.reduceToNat, Int.reducePow, Nat.zero_add, Nat.mul_one, Int.toNat_natCast, e11, e4, e3]
              refine WCond_dec (fun h6 => ?_) (fun h6 => ?_)
              · simp (maxSteps := 2000000) (disch := first | omega | assumption | (simp only [oneC_int, oneC_bool, oneC_str, oneC_ptr, oneC_sl, oneC_map]; done) | (simp only [List.length_cons, List.length_nil, List.length_set, List.length_map, List.length_replicate, List.length_append, List.length_take, List.length_drop, Int.toNat_natCast] <;> omega) | fail) only [Go.Rx.vi, Go.Rx.vb, Go.Rx.vstr, rxc, rxo, Nat.reduceLeDiff, List.getElem?_cons_zero, List.getElem?_cons_succ, List.length_cons, List.length_nil, List.set_cons_zero, List.set_cons_succ, ↓reduceIte, Bool.not_true, Bool.not_false, true_and, and_true, not_true_eq_false, not_false_eq_true, decide_true, decide_false, Nat.reduceEqDiff, Nat.reduceAdd, Nat.reduceMul, Nat.reducePow, Int.reduceToNat, Int.reducePow, Nat.zero_add, Nat.mul_one, Int.toNat_natCast, e11, e4, e3]
                refine hk _ (by simp (maxSteps := 2000000) (disch := first | omega | assumption | (simp only [oneC_int, oneC_bool, oneC_str, oneC_ptr, oneC_sl, oneC_map]; done) | (simp only [List.length_cons, List.length_nil, List.length_set, List.length_map, List.length_replicate, List.length_append, List.length_take, List.length_drop, Int.toNat_natCast] <;> omega) | fail) only [Go.Rx.vi, Go.Rx.vb, Go.Rx.vstr, rxc, rxo, Nat.reduceLeDiff, List.getElem?_cons_zero, List.getElem?_cons_succ, List.length_cons, List.length_nil, List.set_cons_zero, List.set_cons_succ, ↓reduceIte, Bool.not_true, Bool.not_false, true_and, and_true, not_true_eq_false, not_false_eq_true, decide_true, decide_false, Nat.reduceEqDiff, Nat.reduceAdd, Nat.reduceMul, Nat.reducePow, Int.reduceToNat, Int.reducePow, Nat.zero_add, Nat.mul_one, Int.toNat_natCast, e1]) ?_
                simp (maxSteps := 2000000) (disch := first | omega | assumption | (simp only [oneC_int, oneC_bool, oneC_str, oneC_ptr, oneC_sl, oneC_map]; done) | (simp only [List.length_cons, List.length_nil, List.length_set, List.length_map, List.length_replicate, List.length_append, List.length_take, List.length_drop, Int.toNat_natCast] <;> omega) | fail) only [Go.Rx.vi, Go.Rx.vb, Go.Rx.vstr, rxc, rxo, Nat.reduceLeDiff, List.getElem?_cons_zero, List.getElem?_cons_succ, List.length_cons, List.length_nil, List.set_cons_zero, List.set_cons_succ, ↓reduceIte, Bool.not_true, Bool.not_false, true_and, and_true, not_true_eq_false, not_false_eq_true, decide_true, decide_false, Nat.reduceEqDiff, Nat.reduceAdd, Nat.reduceMul, Nat.reducePow, Int.reduceToNat, Int.reducePow, Nat.zero_add, Nat.mul_one, Int.toNat_natCast]
                exact okN_t (by omega)
              · simp (maxSteps := 2000000) (disch := first | omega | assumption | (simp only [oneC_int, oneC_bool, oneC_str, oneC_ptr, oneC_sl, oneC_map]; done) | (simp only [List.length_cons, List.length_nil, List.length_set, List.length_map, List.length_replicate, List.length_append, List.length_take, List.length_drop, Int.toNat_natCast] <;> omega) | fail) only [Go.Rx.vi, Go.Rx.vb, Go.Rx.vstr, rxc, rxo, Nat.reduceLeDiff, List.getElem?_cons_zero, List.getElem?_cons_succ, List.length_cons, List.length_nil, List.set_cons_zero, List.set_cons_succ, ↓reduceIte, Bool.not_true, Bool.not_false, true_and, and_true, not_true_eq_false, not_false_eq_true, decide_true, decide_false, Nat.reduceEqDiff, Nat.reduceAdd, Nat.reduceMul, Nat.reducePow, Int.reduceToNat, Int.reducePow, Nat.zero_add, Nat.mul_one, Int.toNat_natCast, e11, e4, e3]
                refine WCond_dec (fun h7 => ?_) (fun h7 => ?_)
                · simp (maxSteps := 2000000) (disch := first | omega | assumption | (simp only [oneC_int, oneC_bool, oneC_str, oneC_ptr, oneC_sl, oneC_map]; done) | (simp only [List.length_cons, List.length_nil, List.length_set, List.length_map, List.length_replicate, List.length_append, List.length_take, List.length_drop, Int.toNat_natCast] <;> omega) | fail) only [Go.Rx.vi, Go.Rx.vb, Go.Rx.vstr, rxc, rxo, Nat.reduceLeDiff, List.getElem?_cons_zero, List.getElem?_cons_succ, List.length_cons, List.length_nil, List.set_cons_zero, List.set_cons_succ, ↓reduceIte, Bool.not_true, Bool.not_false, true_and, and_true, not_true_eq_false, not_false_eq_true, decide_true, decide_false, Nat.reduceEqDiff, Nat.reduceAdd, Nat.reduceMul, Nat.reducePow, Int.reduceToNat, Int.reducePow, Nat.zero_add, Nat.mul_one, Int.toNat_natCast, e11, e4, e3]
                  refine hk _ (by simp (maxSteps := 2000000) (disch := first | omega | assumption | (simp only [oneC_int, oneC_bool, oneC_str, oneC_ptr, oneC_sl, oneC_map]; done) | (simp only [List.length_cons, List.length_nil, List.length_set, List.length_map, List.length_replicate, List.length_append, List.length_take, List.length_drop, Int.toNat_natCast] <;> omega) | fail) only [Go.Rx.vi, Go.Rx.vb, Go.Rx.vstr, rxc, rxo, Nat.reduceLeDiff, List.getElem?_cons_zero, List.getElem?_cons_succ, List.length_cons, List.length_nil, List.set_cons_zero, List.set_cons_succ, ↓reduceIte, Bool.not_true, Bool.not_false, true_and, and_true, not_true_eq_false, not_false_eq_true, decide_true, decide_false, Nat.reduceEqDiff, Nat.reduceAdd, Nat.reduceMul, Nat.reducePow, Int.reduceToNat, Int.reducePow, Nat.zero_add, Nat.mul_one, Int.toNat_natCast, e1]) ?_
                  simp (maxSteps := 2000000) (disch := first | omega | assumption | (simp only [oneC_int, oneC_bool, oneC_str, oneC_ptr, oneC_sl, oneC_map]; done) | (simp only [List.length_cons, List.length_nil, List.length_set, List.length_map, List.length_replicate, List.length_append, List.length_take, List.length_drop, Int.toNat_natCast] <;> omega) | fail) only [Go.Rx.vi, Go.Rx.vb, Go.Rx.vstr, rxc, rxo, Nat.reduceLeDiff, List.getElem?_cons_zero, List.getElem?_cons_succ, List.length_cons, List.length_nil, List.set_cons_zero, List.set_cons_succ, ↓reduceIte, Bool.not_true, Bool.not_false, true_and, and_true, not_true_eq_false, not_false_eq_true, decide_true, decide_false, Nat.reduceEqDiff, Nat.reduceAdd, Nat.reduceMul, Nat.reducePow, Int.reduceToNat, Int.reducePow, Nat.zero_add, Nat.mul_one, Int.toNat_natCast]
                  exact okN_t (by omega)
                · simp (maxSteps := 2000000) (disch := first | omega | assumption | (simp only [oneC_int, oneC_bool, oneC_str, oneC_ptr, oneC_sl, oneC_map]; done) | (simp only [List.length_cons, List.length_nil, List.length_set, List.length_map, List.length_replicate, List.length_append, List.length_take, List.length_drop, Int.toNat_natCast] <;> omega) | fail) only [Go.Rx.vi, Go.Rx.vb, Go.Rx.vstr, rxc, rxo, Nat.reduceLeDiff, List.getElem?_cons_zero, List.getElem?_cons_succ, List.length_cons, List.length_nil, List.set_cons_zero, List.set_cons_succ, ↓reduceIte, Bool.not_true, Bool.not_false, true_and, and_true, not_true_eq_false, not_false_eq_true, decide_true, decide_false, Nat.reduceEqDiff, Nat.reduceAdd, Nat.reduceMul, Nat.reducePow, Int.reduceToNat, Int.reducePow, Nat.zero_add, Nat.mul_one, Int.toNat_natCast, e11, e4, e3]
                  refine hk _ (by simp (maxSteps := 2000000) (disch := first | omega | assumption | (simp only [oneC_int, oneC_bool, oneC_str, oneC_ptr, oneC_sl, oneC_map]; done) | (simp only [List.length_cons, List.length_nil, List.length_set, List.length_map, List.length_replicate, List.length_append, List.length_take, List.length_drop, Int.toNat_natCast] <;> omega) | fail) only [Go.Rx.vi, Go.Rx.vb, Go.Rx.vstr, rxc, rxo, Nat.reduceLeDiff, List.getElem?_cons_zero, List.getElem?_cons_succ, List.length_cons, List.length_nil, List.set_cons_zero, List.set_cons_succ, ↓reduceIte, Bool.not_true, Bool.not_false, true_and, and_true, not_true_eq_false, not_false_eq_true, decide_true, decide_false, Nat.reduceEqDiff, Nat.reduceAdd, Nat.reduceMul, Nat.reducePow, Int.reduceToNat, Int.reducePow, Nat.zero_add, Nat.mul_one, Int.toNat_natCast, e1]) ?_
                  simp (maxSteps := 2000000) (disch := first | omega | assumption | (simp only [oneC_int, oneC_bool, oneC_str, oneC_ptr, oneC_sl, oneC_map]; done) | (simp only [List.length_cons, List.length_nil, List.length_set, List.length_map, List.length_replicate, List.length_append, List.length_take, List.length_drop, Int.toNat_natCast] <;> omega) | fail) only [Go.Rx.vi, Go.Rx.vb, Go.Rx.vstr, rxc, rxo, Nat.reduceLeDiff, List.getElem?_cons_zero, List.getElem?_cons_succ, List.length_cons, List.length_nil, List.set_cons_zero, List.set_cons_succ, ↓reduceIte, Bool.not_true, Bool.not_false, true_and, and_true, not_true_eq_false, not_false_eq_true, decide_true, decide_false, Nat.reduceEqDiff, Nat.reduceAdd, Nat.reduceMul, Nat.reducePow, Int.reduceToNat, Int.reducePow, Nat.zero_add, Nat.mul_one, Int.toNat_natCast, e3]
                  unfold okN
                  rw [decide_eq_false (by omega)]

theorem eqI_dec (a b : Int) : eqI a b = decide (a = b) := by rw [eqI_eq]; rfl
theorem eqL4 {s0 s1 s2 s3 : Int} : eqL [1, 1, 1, 1] [.int .u64 s0, .int .u64 s1, .int .u64 s2, .int .u64 s3] [.int .u64 0, .int .u64 0, .int .u64 0, .int .u64 0] = some (decide ([s0, s1, s2, s3] = [0, 0, 0, 0])) := by
  have hk : sameKind .u64 .u64 = true := rfl
  simp only [eqL, eqP, hk, cond_true, eqI_dec]
  congr 1
  rw [Bool.eq_iff_iff]
  simp
theorem iEqa4 {l : List Int} (hl : l.length = 4) {h : Heap} : iEqa [1, 1, 1, 1] true (.agg ⟨l.map (.int .u64)⟩) (.agg ⟨[.int .u64 0, .int .u64 0, .int .u64 0, .int .u64 0]⟩) h = some (.bool (!decide (l = [0, 0, 0, 0])), h) := by
  match l, hl with
  | [s0, s1, s2, s3], _ =>
    unfold iEqa
    simp only [List.map_cons, List.map_nil, eqL4, cond_true]
theorem RegC.cutSet {h : Heap} {r : RegD} {cs : List Value} (hr : RegC h r cs) : cut cs 1 4 = some (r.set.map (.int .u64)) ∧ r.set.length = 4 ∧ ∀ x ∈ r.set, 0 ≤ x ∧ x < 18446744073709551616 := by
  obtain ⟨s0, s1, s2, s3, v, css, rfl, hs, hk1, hs1, hv, hl'⟩ := hr.parts
  refine ⟨?_, by rw [hs]; rfl, hs1⟩
  rw [cut_ok (by simp [rgC]), hs]
  rfl
theorem may_ok (hm : M.Mono) (hO : M.O 74 = none) (hF : M.F 74 = some A74) (r : RegD) : ∀ {cs : List Value} {h : Heap} {K : KF}, 1 ≤ h.next → RegC h r cs → r.size < 4611686018427387904 →
    (∀ h', GrowP h h' → K (.bool r.may) h') → WF M 74 [.agg ⟨cs⟩] h K := by
  refine RegD.ind (P := fun r => ∀ {cs : List Value} {h : Heap} {K : KF}, 1 ≤ h.next → RegC h r cs → r.size < 4611686018427387904 →
    (∀ h', GrowP h h' → K (.bool r.may) h') → WF M 74 [.agg ⟨cs⟩] h K) ?_ r
  intro k s ps ih cs h K h1 hr hsz hk
  rw [WF_eqT 7 hO hF]
  obtain ⟨q1, q2, q3, v, css, q4, q5, q6⟩ := hr.b
  obtain ⟨z1, z2, z3⟩ := hr.cutSet
  rw [RegD.parts] at q6
  rw [RegD.kind] at q3
  rw [RegD.set] at z1 z2
  rw [RegD.size] at hsz
  have hA : A74 = ⟨(.seq (.reg R74_0) (.seq (.reg R74_1) (.seq (.seq (.reg R74_2) (.seq (.reg R74_3) (.block 0 X74))) (.seq (.seq (.reg R74_15) (.cond (.t 41) (.seq (.reg R74_16) .ret) .skip)) (.seq (.seq (.reg R74_17) (.block 1 (.loop B74_0))) (.seq (.reg R74_23) .ret)))))), [(2, none)]⟩ := rfl
  simp (maxSteps := 2000000) (disch := first | omega | assumption | (simp only [oneC_int, oneC_bool, oneC_str, oneC_ptr, oneC_sl, oneC_map]; done) | (simp only [List.length_cons, List.length_nil, List.length_set, List.length_map, List.length_replicate, List.length_append, List.length_take, List.length_drop, Int.toNat_natCast] <;> omega) | fail) only [Go.Rx.vi, Go.Rx.vb, Go.Rx.vstr, rxc, rxo, Nat.reduceLeDiff, List.getElem?_cons_zero, List.getElem?_cons_succ, List.length_cons, List.length_nil, List.set_cons_zero, List.set_cons_succ, ↓reduceIte, Bool.not_true, Bool.not_false, true_and, and_true, not_true_eq_false, not_false_eq_true, decide_true, decide_false, Nat.reduceEqDiff, Nat.reduceAdd, Nat.reduceMul, Nat.reducePow, Int.reduceToNat, Int.reducePow, Nat.zero_add, Nat.mul_one, Int.toNat_natCast, hA, R74_0, q1]
  obtain ⟨h2, e2, g2, n2, b2⟩ := boxed h cs 48
  rw [e2]
  have r1 := q5.r
  have hpl := (RegL.iff.1 q6).1
  have hsl := sizeR_len ps
  have hend : ∀ h', GrowP h h' → K (.bool (okN k ps.length && (decide (k = 2) || decide (s = [0, 0, 0, 0])) && mayR ps)) h' := fun h' g => by rw [← RegD.may]; exact hk h' g
  simp (maxSteps := 2000000) (disch := first | omega | assumption | (simp only [oneC_int, oneC_bool, oneC_str, oneC_ptr, oneC_sl, oneC_map]; done) | (simp only [List.length_cons, List.length_nil, List.length_set, List.length_map, List.length_replicate, List.length_append, List.length_take, List.length_drop, Int.toNat_natCast] <;> omega) | fail) only [Go.Rx.vi, Go.Rx.vb, Go.Rx.vstr, rxc, rxo, Nat.reduceLeDiff, List.getElem?_cons_zero, List.getElem?_cons_succ, List.length_cons, List.length_nil, List.set_cons_zero, List.set_cons_succ, ↓reduceIte, Bool.not_true, Bool.not_false, true_and, and_true, not_true_eq_false, not_false_eq_true, decide_true, decide_false, Nat.reduceEqDiff, Nat.reduceAdd, Nat.reduceMul, Nat.reducePow, Int.reduceToNat, Int.reducePow, Nat.zero_add, Nat.mul_one, Int.toNat_natCast, R74_1, R74_2, R74_3, b2, q4, q3, r1]
  refine may_switch (k := k) (n := ps.length) (P := .pointer (some ⟨h.next, 0, none⟩)) (by simp (maxSteps := 2000000) (disch := first | omega | assumption | (simp only [oneC_int, oneC_bool, oneC_str, oneC_ptr, oneC_sl, oneC_map]; done) | (simp only [List.length_cons, List.length_nil, List.length_set, List.length_map, List.length_replicate, List.length_append, List.length_take, List.length_drop, Int.toNat_natCast] <;> omega) | fail) only [Go.Rx.vi, Go.Rx.vb, Go.Rx.vstr, rxc, rxo, Nat.reduceLeDiff, List.getElem?_cons_zero, List.getElem?_cons_succ, List.length_cons, List.length_nil, List.set_cons_zero, List.set_cons_succ, ↓reduceIte, Bool.not_true, Bool.not_false, true_and, and_true, not_true_eq_false, not_false_eq_true, decide_true, decide_false, Nat.reduceEqDiff, Nat.reduceAdd, Nat.reduceMul, Nat.reducePow, Int.reduceToNat, Int.reducePow, Nat.zero_add, Nat.mul_one, Int.toNat_natCast]) (by simp (maxSteps := 2000000) (disch := first | omega | assumption | (simp only [oneC_int, oneC_bool, oneC_str, oneC_ptr, oneC_sl, oneC_map]; done) | (simp only [List.length_cons, List.length_nil, List.length_set, List.length_map, List.length_replicate, List.length_append, List.length_take, List.length_drop, Int.toNat_natCast] <;> omega) | fail) only [Go.Rx.vi, Go.Rx.vb, Go.Rx.vstr, rxc, rxo, Nat.reduceLeDiff, List.getElem?_cons_zero, List.getElem?_cons_succ, List.length_cons, List.length_nil, List.set_cons_zero, List.set_cons_succ, ↓reduceIte, Bool.not_true, Bool.not_false, true_and, and_true, not_true_eq_false, not_false_eq_true, decide_true, decide_false, Nat.reduceEqDiff, Nat.reduceAdd, Nat.reduceMul, Nat.reducePow, Int.reduceToNat, Int.reducePow, Nat.zero_add, Nat.mul_one, Int.toNat_natCast]) (by simp (maxSteps := 2000000) (disch := first | omega | assumption | (simp only [oneC_int, oneC_bool, oneC_str, oneC_ptr, oneC_sl, oneC_map]; done) | (simp only [List.length_cons, List.length_nil, List.length_set, List.length_map, List.length_replicate, List.length_append, List.length_take, List.length_drop, Int.toNat_natCast] <;> omega) | fail) only [Go.Rx.vi, Go.Rx.vb, Go.Rx.vstr, rxc, rxo, Nat.reduceLeDiff, List.getElem?_cons_zero, List.getElem?_cons_succ, List.length_cons, List.length_nil, List.set_cons_zero, List.set_cons_succ, ↓reduceIte, Bool.not_true, Bool.not_false, true_and, and_true, not_true_eq_false, not_false_eq_true, decide_true, decide_false, Nat.reduceEqDiff, Nat.reduceAdd, Nat.reduceMul, Nat.reducePow, Int.reduceToNat, Int.reducePow, Nat.zero_add, Nat.mul_one, Int.toNat_natCast]; rw [hpl]) (by simp (maxSteps := 2000000) (disch := first | omega | assumption | (simp only [oneC_int, oneC_bool, oneC_str, oneC_ptr, oneC_sl, oneC_map]; done) | (simp only [List.length_cons, List.length_nil, List.length_set, List.length_map, List.length_replicate, List.length_append, List.length_take, List.length_drop, Int.toNat_natCast] <;> omega) | fail) only [Go.Rx.vi, Go.Rx.vb, Go.Rx.vstr, rxc, rxo, Nat.reduceLeDiff, List.getElem?_cons_zero, List.getElem?_cons_succ, List.length_cons, List.length_nil, List.set_cons_zero, List.set_cons_succ, ↓reduceIte, Bool.not_true, Bool.not_false, true_and, and_true, not_true_eq_false, not_false_eq_true, decide_true, decide_false, Nat.reduceEqDiff, Nat.reduceAdd, Nat.reduceMul, Nat.reducePow, Int.reduceToNat, Int.reducePow, Nat.zero_add, Nat.mul_one, Int.toNat_natCast]) ?_
  intro e' f1 f3
  simp (maxSteps := 2000000) (disch := first | omega | assumption | (simp only [oneC_int, oneC_bool, oneC_str, oneC_ptr, oneC_sl, oneC_map]; done) | (simp only [List.length_cons, List.length_nil, List.length_set, List.length_map, List.length_replicate, List.length_append, List.length_take, List.length_drop, Int.toNat_natCast] <;> omega) | fail) only [Go.Rx.vi, Go.Rx.vb, Go.Rx.vstr, rxc, rxo, Nat.reduceLeDiff, List.getElem?_cons_zero, List.getElem?_cons_succ, List.length_cons, List.length_nil, List.set_cons_zero, List.set_cons_succ, ↓reduceIte, Bool.not_true, Bool.not_false, true_and, and_true, not_true_eq_false, not_false_eq_true, decide_true, decide_false, Nat.reduceEqDiff, Nat.reduceAdd, Nat.reduceMul, Nat.reducePow, Int.reduceToNat, Int.reducePow, Nat.zero_add, Nat.mul_one, Int.toNat_natCast, R74_15, f1, f3, b2, q3]
  have fin : ∀ (e : Env) (h' : Heap), GrowP h h' → okN k ps.length = true → (k = 2 ∨ s = [0, 0, 0, 0]) → e.g 1 = .pointer (some ⟨h.next, 0, none⟩) → h'.at h.next = some (.cells cs 48 true) → WB M R74_17 e h' (SeqK M (.block 1 (.loop B74_0)) (SeqK M (.seq (.reg R74_23) .ret) (FunK [(2, none)] K)) .normal) := by
    intro e h3 g3 hok hset e1 b3
    rw [← TE_nil (n := 7) (e := e)]
    have r3 := (q5.gp g3).r
    simp (maxSteps := 2000000) (disch := first | omega | assumption | (simp only [oneC_int, oneC_bool, oneC_str, oneC_ptr, oneC_sl, oneC_map]; done) | (simp only [List.length_cons, List.length_nil, List.length_set, List.length_map, List.length_replicate, List.length_append, List.length_take, List.length_drop, Int.toNat_natCast] <;> omega) | fail) only [Go.Rx.vi, Go.Rx.vb, Go.Rx.vstr, rxc, rxo, Nat.reduceLeDiff, List.getElem?_cons_zero, List.getElem?_cons_succ, List.length_cons, List.length_nil, List.set_cons_zero, List.set_cons_succ, ↓reduceIte, Bool.not_true, Bool.not_false, true_and, and_true, not_true_eq_false, not_false_eq_true, decide_true, decide_false, Nat.reduceEqDiff, Nat.reduceAdd, Nat.reduceMul, Nat.reducePow, Int.reduceToNat, Int.reducePow, Nat.zero_add, Nat.mul_one, Int.toNat_natCast, R74_17, e1, b3, q4, r3]
    refine WC_bloop 7 (fun m e h' => ∃ (i : Nat), m = css.length - i ∧ i ≤ css.length ∧ mayR (ps.take i) = true ∧ e.g 43 = v ∧ e.g 44 = .int .i64 css.length ∧ e.g 45 = .int .i64 i ∧ GrowP h h')
      (fun e h' => mayR ps = true ∧ GrowP h h') ?_ ?_ ?_
    · refine ⟨_, 0, rfl, by omega, by simp [mayR], ?_, ?_, ?_, g3⟩
      · simp (maxSteps := 2000000) (disch := first | omega | assumption | (simp only [oneC_int, oneC_bool, oneC_str, oneC_ptr, oneC_sl, oneC_map]; done) | (simp only [List.length_cons, List.length_nil, List.length_set, List.length_map, List.length_replicate, List.length_append, List.length_take, List.length_drop, Int.toNat_natCast] <;> omega) | fail) only [Go.Rx.vi, Go.Rx.vb, Go.Rx.vstr, rxc, rxo, Nat.reduceLeDiff, List.getElem?_cons_zero, List.getElem?_cons_succ, List.length_cons, List.length_nil, List.set_cons_zero, List.set_cons_succ, ↓reduceIte, Bool.not_true, Bool.not_false, true_and, and_true, not_true_eq_false, not_false_eq_true, decide_true, decide_false, Nat.reduceEqDiff, Nat.reduceAdd, Nat.reduceMul, Nat.reducePow, Int.reduceToNat, Int.reducePow, Nat.zero_add, Nat.mul_one, Int.toNat_natCast]
      · simp (maxSteps := 2000000) (disch := first | omega | assumption | (simp only [oneC_int, oneC_bool, oneC_str, oneC_ptr, oneC_sl, oneC_map]; done) | (simp only [List.length_cons, List.length_nil, List.length_set, List.length_map, List.length_replicate, List.length_append, List.length_take, List.length_drop, Int.toNat_natCast] <;> omega) | fail) only [Go.Rx.vi, Go.Rx.vb, Go.Rx.vstr, rxc, rxo, Nat.reduceLeDiff, List.getElem?_cons_zero, List.getElem?_cons_succ, List.length_cons, List.length_nil, List.set_cons_zero, List.set_cons_succ, ↓reduceIte, Bool.not_true, Bool.not_false, true_and, and_true, not_true_eq_false, not_false_eq_true, decide_true, decide_false, Nat.reduceEqDiff, Nat.reduceAdd, Nat.reduceMul, Nat.reducePow, Int.reduceToNat, Int.reducePow, Nat.zero_add, Nat.mul_one, Int.toNat_natCast]
      · simp (maxSteps := 2000000) (disch := first | omega | assumption | (simp only [oneC_int, oneC_bool, oneC_str, oneC_ptr, oneC_sl, oneC_map]; done) | (simp only [List.length_cons, List.length_nil, List.length_set, List.length_map, List.length_replicate, List.length_append, List.length_take, List.length_drop, Int.toNat_natCast] <;> omega) | fail) only [Go.Rx.vi, Go.Rx.vb, Go.Rx.vstr, rxc, rxo, Nat.reduceLeDiff, List.getElem?_cons_zero, List.getElem?_cons_succ, List.length_cons, List.length_nil, List.set_cons_zero, List.set_cons_succ, ↓reduceIte, Bool.not_true, Bool.not_false, true_and, and_true, not_true_eq_false, not_false_eq_true, decide_true, decide_false, Nat.reduceEqDiff, Nat.reduceAdd, Nat.reduceMul, Nat.reducePow, Int.reduceToNat, Int.reducePow, Nat.zero_add, Nat.mul_one, Int.toNat_natCast]; rfl
    · rintro m e h' ⟨i, rfl, hi, hmi, e7, e8, e9, g⟩
      have r2 := (q5.gp g).r
      simp (maxSteps := 2000000) (disch := first | omega | assumption | (simp only [oneC_int, oneC_bool, oneC_str, oneC_ptr, oneC_sl, oneC_map]; done) | (simp only [List.length_cons, List.length_nil, List.length_set, List.length_map, List.length_replicate, List.length_append, List.length_take, List.length_drop, Int.toNat_natCast] <;> omega) | fail) only [Go.Rx.vi, Go.Rx.vb, Go.Rx.vstr, rxc, rxo, Nat.reduceLeDiff, List.getElem?_cons_zero, List.getElem?_cons_succ, List.length_cons, List.length_nil, List.set_cons_zero, List.set_cons_succ, ↓reduceIte, Bool.not_true, Bool.not_false, true_and, and_true, not_true_eq_false, not_false_eq_true, decide_true, decide_false, Nat.reduceEqDiff, Nat.reduceAdd, Nat.reduceMul, Nat.reducePow, Int.reduceToNat, Int.reducePow, Nat.zero_add, Nat.mul_one, Int.toNat_natCast, B74_0, R74_18, e8, e9]
      refine WCond_dec (fun hc => ?_) (fun hc => ?_)
      · obtain ⟨p, hp, hpc⟩ := q6.get (i := i) (by omega)
        obtain ⟨p1, p2, p3, pv, pss, p4, p5, p6⟩ := hpc.b
        simp (maxSteps := 2000000) (disch := first | omega | assumption | (simp only [oneC_int, oneC_bool, oneC_str, oneC_ptr, oneC_sl, oneC_map]; done) | (simp only [List.length_cons, List.length_nil, List.length_set, List.length_map, List.length_replicate, List.length_append, List.length_take, List.length_drop, Int.toNat_natCast] <;> omega) | fail) only [Go.Rx.vi, Go.Rx.vb, Go.Rx.vstr, rxc, rxo, Nat.reduceLeDiff, List.getElem?_cons_zero, List.getElem?_cons_succ, List.length_cons, List.length_nil, List.set_cons_zero, List.set_cons_succ, ↓reduceIte, Bool.not_true, Bool.not_false, true_and, and_true, not_true_eq_false, not_false_eq_true, decide_true, decide_false, Nat.reduceEqDiff, Nat.reduceAdd, Nat.reduceMul, Nat.reducePow, Int.reduceToNat, Int.reducePow, Nat.zero_add, Nat.mul_one, Int.toNat_natCast, R74_19, e7, e8, e9, r2, p1, st6 p1 p2]
        obtain ⟨h4, e5, g4, n4, b4⟩ := boxed2 h' [.int .i64 0, .int .u64 0, .int .u64 0, .int .u64 0, .int .u64 0, .slice none 0 0] (css.getD i []) 48
        rw [e5]
        simp (maxSteps := 2000000) (disch := first | omega | assumption | (simp only [oneC_int, oneC_bool, oneC_str, oneC_ptr, oneC_sl, oneC_map]; done) | (simp only [List.length_cons, List.length_nil, List.length_set, List.length_map, List.length_replicate, List.length_append, List.length_take, List.length_drop, Int.toNat_natCast] <;> omega) | fail) only [Go.Rx.vi, Go.Rx.vb, Go.Rx.vstr, rxc, rxo, Nat.reduceLeDiff, List.getElem?_cons_zero, List.getElem?_cons_succ, List.length_cons, List.length_nil, List.set_cons_zero, List.set_cons_succ, ↓reduceIte, Bool.not_true, Bool.not_false, true_and, and_true, not_true_eq_false, not_false_eq_true, decide_true, decide_false, Nat.reduceEqDiff, Nat.reduceAdd, Nat.reduceMul, Nat.reducePow, Int.reduceToNat, Int.reducePow, Nat.zero_add, Nat.mul_one, Int.toNat_natCast, R74_20, b4, p1, cut_all p1]
        have hps := sizeR_get hp
        refine ih p (List.mem_of_getElem? hp) (by have := g.next; omega) ((hpc.gp g).gp g4) (by omega) ?_
        intro h5 g5
        cases hpm : p.may with
        | false =>
          simp (maxSteps := 2000000) (disch := first | omega | assumption | (simp only [oneC_int, oneC_bool, oneC_str, oneC_ptr, oneC_sl, oneC_map]; done) | (simp only [List.length_cons, List.length_nil, List.length_set, List.length_map, List.length_replicate, List.length_append, List.length_take, List.length_drop, Int.toNat_natCast] <;> omega) | fail) only [Go.Rx.vi, Go.Rx.vb, Go.Rx.vstr, rxc, rxo, Nat.reduceLeDiff, List.getElem?_cons_zero, List.getElem?_cons_succ, List.length_cons, List.length_nil, List.set_cons_zero, List.set_cons_succ, ↓reduceIte, Bool.not_true, Bool.not_false, true_and, and_true, not_true_eq_false, not_false_eq_true, decide_true, decide_false, Nat.reduceEqDiff, Nat.reduceAdd, Nat.reduceMul, Nat.reducePow, Int.reduceToNat, Int.reducePow, Nat.zero_add, Nat.mul_one, Int.toNat_natCast, R74_21]
          have := hend h5 ((g.trans g4).trans g5)
          have hf : mayR ps = false := by
            cases hmm : mayR ps with
            | false => rfl
            | true => rw [mayR_all.1 hmm p (List.mem_of_getElem? hp)] at hpm; cases hpm
          rw [hf, Bool.and_false] at this
          exact this
        | true =>
          simp (maxSteps := 2000000) (disch := first | omega | assumption | (simp only [oneC_int, oneC_bool, oneC_str, oneC_ptr, oneC_sl, oneC_map]; done) | (simp only [List.length_cons, List.length_nil, List.length_set, List.length_map, List.length_replicate, List.length_append, List.length_take, List.length_drop, Int.toNat_natCast] <;> omega) | fail) only [Go.Rx.vi, Go.Rx.vb, Go.Rx.vstr, rxc, rxo, Nat.reduceLeDiff, List.getElem?_cons_zero, List.getElem?_cons_succ, List.length_cons, List.length_nil, List.set_cons_zero, List.set_cons_succ, ↓reduceIte, Bool.not_true, Bool.not_false, true_and, and_true, not_true_eq_false, not_false_eq_true, decide_true, decide_false, Nat.reduceEqDiff, Nat.reduceAdd, Nat.reduceMul, Nat.reducePow, Int.reduceToNat, Int.reducePow, Nat.zero_add, Nat.mul_one, Int.toNat_natCast, R74_22, e7, e8, e9]
          refine ⟨_, ?_, i + 1, rfl, by omega, ?_, ?_, (g.trans g4).trans g5⟩
          · omega
          · have hi2 := (List.getElem?_eq_some_iff.1 hp).1
            rw [List.take_add_one, hp, mayR_app, hmi]
            simp [mayR, hpm]
          · simp
      · simp (maxSteps := 2000000) (disch := first | omega | assumption | (simp only [oneC_int, oneC_bool, oneC_str, oneC_ptr, oneC_sl, oneC_map]; done) | (simp only [List.length_cons, List.length_nil, List.length_set, List.length_map, List.length_replicate, List.length_append, List.length_take, List.length_drop, Int.toNat_natCast] <;> omega) | fail) only [Go.Rx.vi, Go.Rx.vb, Go.Rx.vstr, rxc, rxo, Nat.reduceLeDiff, List.getElem?_cons_zero, List.getElem?_cons_succ, List.length_cons, List.length_nil, List.set_cons_zero, List.set_cons_succ, ↓reduceIte, Bool.not_true, Bool.not_false, true_and, and_true, not_true_eq_false, not_false_eq_true, decide_true, decide_false, Nat.reduceEqDiff, Nat.reduceAdd, Nat.reduceMul, Nat.reducePow, Int.reduceToNat, Int.reducePow, Nat.zero_add, Nat.mul_one, Int.toNat_natCast]
        refine ⟨?_, g⟩
        rw [List.take_of_length_le (by omega)] at hmi
        exact hmi
    · rintro e h' ⟨hmm, g⟩
      simp (maxSteps := 2000000) (disch := first | omega | assumption | (simp only [oneC_int, oneC_bool, oneC_str, oneC_ptr, oneC_sl, oneC_map]; done) | (simp only [List.length_cons, List.length_nil, List.length_set, List.length_map, List.length_replicate, List.length_append, List.length_take, List.length_drop, Int.toNat_natCast] <;> omega) | fail) only [Go.Rx.vi, Go.Rx.vb, Go.Rx.vstr, rxc, rxo, Nat.reduceLeDiff, List.getElem?_cons_zero, List.getElem?_cons_succ, List.length_cons, List.length_nil, List.set_cons_zero, List.set_cons_succ, ↓reduceIte, Bool.not_true, Bool.not_false, true_and, and_true, not_true_eq_false, not_false_eq_true, decide_true, decide_false, Nat.reduceEqDiff, Nat.reduceAdd, Nat.reduceMul, Nat.reducePow, Int.reduceToNat, Int.reducePow, Nat.zero_add, Nat.mul_one, Int.toNat_natCast, R74_23]
      have := hend h' g
      rw [hmm, hok] at this
      rcases hset with hs | hs
      · rw [decide_eq_true hs] at this
        simpa using this
      · rw [decide_eq_true hs] at this
        simpa using this
  cases hb : okN k ps.length with
  | false =>
    simp (maxSteps := 2000000) (disch := first | omega | assumption | (simp only [oneC_int, oneC_bool, oneC_str, oneC_ptr, oneC_sl, oneC_map]; done) | (simp only [List.length_cons, List.length_nil, List.length_set, List.length_map, List.length_replicate, List.length_append, List.length_take, List.length_drop, Int.toNat_natCast] <;> omega) | fail) only [Go.Rx.vi, Go.Rx.vb, Go.Rx.vstr, rxc, rxo, Nat.reduceLeDiff, List.getElem?_cons_zero, List.getElem?_cons_succ, List.length_cons, List.length_nil, List.set_cons_zero, List.set_cons_succ, ↓reduceIte, Bool.not_true, Bool.not_false, true_and, and_true, not_true_eq_false, not_false_eq_true, decide_true, decide_false, Nat.reduceEqDiff, Nat.reduceAdd, Nat.reduceMul, Nat.reducePow, Int.reduceToNat, Int.reducePow, Nat.zero_add, Nat.mul_one, Int.toNat_natCast, R74_16]
    have := hend h2 g2
    rw [hb] at this
    simpa using this
  | true =>
    simp (maxSteps := 2000000) (disch := first | omega | assumption | (simp only [oneC_int, oneC_bool, oneC_str, oneC_ptr, oneC_sl, oneC_map]; done) | (simp only [List.length_cons, List.length_nil, List.length_set, List.length_map, List.length_replicate, List.length_append, List.length_take, List.length_drop, Int.toNat_natCast] <;> omega) | fail) only [Go.Rx.vi, Go.Rx.vb, Go.Rx.vstr, rxc, rxo, Nat.reduceLeDiff, List.getElem?_cons_zero, List.getElem?_cons_succ, List.length_cons, List.length_nil, List.set_cons_zero, List.set_cons_succ, ↓reduceIte, Bool.not_true, Bool.not_false, true_and, and_true, not_true_eq_false, not_false_eq_true, decide_true, decide_false, Nat.reduceEqDiff, Nat.reduceAdd, Nat.reduceMul, Nat.reducePow, Int.reduceToNat, Int.reducePow, Nat.zero_add, Nat.mul_one, Int.toNat_natCast, f1, b2, q3]
    refine WG_dec (p := ¬ k = 2) (fun h2k => ?_) (fun h2k => ?_)
    · simp (maxSteps := 2000000) (disch := first | omega | assumption | (simp only [oneC_int, oneC_bool, oneC_str, oneC_ptr, oneC_sl, oneC_map]; done) | (simp only [List.length_cons, List.length_nil, List.length_set, List.length_map, List.length_replicate, List.length_append, List.length_take, List.length_drop, Int.toNat_natCast] <;> omega) | fail) only [Go.Rx.vi, Go.Rx.vb, Go.Rx.vstr, rxc, rxo, Nat.reduceLeDiff, List.getElem?_cons_zero, List.getElem?_cons_succ, List.length_cons, List.length_nil, List.set_cons_zero, List.set_cons_succ, ↓reduceIte, Bool.not_true, Bool.not_false, true_and, and_true, not_true_eq_false, not_false_eq_true, decide_true, decide_false, Nat.reduceEqDiff, Nat.reduceAdd, Nat.reduceMul, Nat.reducePow, Int.reduceToNat, Int.reducePow, Nat.zero_add, Nat.mul_one, Int.toNat_natCast, f1, b2, z1, iEqa4 z2]
      refine WCond_dec (fun hs => ?_) (fun hs => ?_)
      · simp (maxSteps := 2000000) (disch := first | omega | assumption | (simp only [oneC_int, oneC_bool, oneC_str, oneC_ptr, oneC_sl, oneC_map]; done) | (simp only [List.length_cons, List.length_nil, List.length_set, List.length_map, List.length_replicate, List.length_append, List.length_take, List.length_drop, Int.toNat_natCast] <;> omega) | fail) only [Go.Rx.vi, Go.Rx.vb, Go.Rx.vstr, rxc, rxo, Nat.reduceLeDiff, List.getElem?_cons_zero, List.getElem?_cons_succ, List.length_cons, List.length_nil, List.set_cons_zero, List.set_cons_succ, ↓reduceIte, Bool.not_true, Bool.not_false, true_and, and_true, not_true_eq_false, not_false_eq_true, decide_true, decide_false, Nat.reduceEqDiff, Nat.reduceAdd, Nat.reduceMul, Nat.reducePow, Int.reduceToNat, Int.reducePow, Nat.zero_add, Nat.mul_one, Int.toNat_natCast, R74_16]
        have := hend h2 g2
        rw [hb, decide_eq_false h2k, decide_eq_false hs] at this
        simpa using this
      · simp (maxSteps := 2000000) (disch := first | omega | assumption | (simp only [oneC_int, oneC_bool, oneC_str, oneC_ptr, oneC_sl, oneC_map]; done) | (simp only [List.length_cons, List.length_nil, List.length_set, List.length_map, List.length_replicate, List.length_append, List.length_take, List.length_drop, Int.toNat_natCast] <;> omega) | fail) only [Go.Rx.vi, Go.Rx.vb, Go.Rx.vstr, rxc, rxo, Nat.reduceLeDiff, List.getElem?_cons_zero, List.getElem?_cons_succ, List.length_cons, List.length_nil, List.set_cons_zero, List.set_cons_succ, ↓reduceIte, Bool.not_true, Bool.not_false, true_and, and_true, not_true_eq_false, not_false_eq_true, decide_true, decide_false, Nat.reduceEqDiff, Nat.reduceAdd, Nat.reduceMul, Nat.reducePow, Int.reduceToNat, Int.reducePow, Nat.zero_add, Nat.mul_one, Int.toNat_natCast]
        exact fin _ _ g2 hb (.inr (Decidable.not_not.1 hs)) (by first | exact f1 | simp (maxSteps := 2000000) (disch := first | omega | assumption | (simp only [oneC_int, oneC_bool, oneC_str, oneC_ptr, oneC_sl, oneC_map]; done) | (simp only [List.length_cons, List.length_nil, List.length_set, List.length_map, List.length_replicate, List.length_append, List.length_take, List.length_drop, Int.toNat_natCast] <;> omega) | fail) only [Go.Rx.vi, Go.Rx.vb, Go.Rx.vstr, rxc, rxo, Nat.reduceLeDiff, List.getElem?_cons_zero, List.getElem?_cons_succ, List.length_cons, List.length_nil, List.set_cons_zero, List.set_cons_succ, ↓reduceIte, Bool.not_true, Bool.not_false, true_and, and_true, not_true_eq_false, not_false_eq_true, decide_true, decide_false, Nat.reduceEqDiff, Nat.reduceAdd, Nat.reduceMul, Nat.reducePow, Int.reduceToNat, Int.reducePow, Nat.zero_add, Nat.mul_one, Int.toNat_natCast, f1]) b2
    · simp (maxSteps := 2000000) (disch := first | omega | assumption | (simp only [oneC_int, oneC_bool, oneC_str, oneC_ptr, oneC_sl, oneC_map]; done) | (simp only [List.length_cons, List.length_nil, List.length_set, List.length_map, List.length_replicate, List.length_append, List.length_take, List.length_drop, Int.toNat_natCast] <;> omega) | fail) only [Go.Rx.vi, Go.Rx.vb, Go.Rx.vstr, rxc, rxo, Nat.reduceLeDiff, List.getElem?_cons_zero, List.getElem?_cons_succ, List.length_cons, List.length_nil, List.set_cons_zero, List.set_cons_succ, ↓reduceIte, Bool.not_true, Bool.not_false, true_and, and_true, not_true_eq_false, not_false_eq_true, decide_true, decide_false, Nat.reduceEqDiff, Nat.reduceAdd, Nat.reduceMul, Nat.reducePow, Int.reduceToNat, Int.reducePow, Nat.zero_add, Nat.mul_one, Int.toNat_natCast]
      exact fin _ _ g2 hb (.inl (by omega)) (by first | exact f1 | simp (maxSteps := 2000000) (disch := first | omega | assumption | (simp only [oneC_int, oneC_bool, oneC_str, oneC_ptr, oneC_sl, oneC_map]; done) | (simp only [List.length_cons, List.length_nil, List.length_set, List.length_map, List.length_replicate, List.length_append, List.length_take, List.length_drop, Int.toNat_natCast] <;> omega) | fail) only [Go.Rx.vi, Go.Rx.vb, Go.Rx.vstr, rxc, rxo, Nat.reduceLeDiff, List.getElem?_cons_zero, List.getElem?_cons_succ, List.length_cons, List.length_nil, List.set_cons_zero, List.set_cons_succ, ↓reduceIte, Bool.not_true, Bool.not_false, true_and, and_true, not_true_eq_false, not_false_eq_true, decide_true, decide_false, Nat.reduceEqDiff, Nat.reduceAdd, Nat.reduceMul, Nat.reducePow, Int.reduceToNat, Int.reducePow, Nat.zero_add, Nat.mul_one, Int.toNat_natCast, f1]) b2

/-! ### Check -/
def RegD.chk (r : RegD) : Int := if r.size > 512 then 3 else if r.depth > 16 then 51 else if r.may then 0 else 2
theorem check_ok (hm : M.Mono) (hO51 : M.O 51 = none) (hF51 : M.F 51 = some A51) (hO55 : M.O 55 = none) (hF55 : M.F 55 = some A55) (hO60 : M.O 60 = none) (hF60 : M.F 60 = some A60) (hO74 : M.O 74 = none) (hF74 : M.F 74 = some A74)
  {r : RegD} {cs : List Value} {h : Heap} {K : KF} (h1 : 1 ≤ h.next) (hr : RegC h r cs) (hk : ∀ h', GrowP h h' → K (.int .i64 r.chk) h') : WF M 51 [.agg ⟨cs⟩] h K := by
  rw [WF_eqT 7 hO51 hF51]
  obtain ⟨q1, q2, q3, v, css, q4, q5, q6⟩ := hr.b
  simp (maxSteps := 2000000) (disch := first | omega | assumption | (simp only [oneC_int, oneC_bool, oneC_str, oneC_ptr, oneC_sl, oneC_map]; done) | (simp only [List.length_cons, List.length_nil, List.length_set, List.length_map, List.length_replicate, List.length_append, List.length_take, List.length_drop, Int.toNat_natCast] <;> omega) | fail) only [Go.Rx.vi, Go.Rx.vb, Go.Rx.vstr, rxc, rxo, Nat.reduceLeDiff, List.getElem?_cons_zero, List.getElem?_cons_succ, List.length_cons, List.length_nil, List.set_cons_zero, List.set_cons_succ, ↓reduceIte, Bool.not_true, Bool.not_false, true_and, and_true, not_true_eq_false, not_false_eq_true, decide_true, decide_false, Nat.reduceEqDiff, Nat.reduceAdd, Nat.reduceMul, Nat.reducePow, Int.reduceToNat, Int.reducePow, Nat.zero_add, Nat.mul_one, Int.toNat_natCast, A51, R51_0, q1]
  obtain ⟨h2, e2, g2, n2, b2⟩ := boxed h cs 48
  rw [e2]
  unfold RegD.chk at hk
  simp (maxSteps := 2000000) (disch := first | omega | assumption | (simp only [oneC_int, oneC_bool, oneC_str, oneC_ptr, oneC_sl, oneC_map]; done) | (simp only [List.length_cons, List.length_nil, List.length_set, List.length_map, List.length_replicate, List.length_append, List.length_take, List.length_drop, Int.toNat_natCast] <;> omega) | fail) only [Go.Rx.vi, Go.Rx.vb, Go.Rx.vstr, rxc, rxo, Nat.reduceLeDiff, List.getElem?_cons_zero, List.getElem?_cons_succ, List.length_cons, List.length_nil, List.set_cons_zero, List.set_cons_succ, ↓reduceIte, Bool.not_true, Bool.not_false, true_and, and_true, not_true_eq_false, not_false_eq_true, decide_true, decide_false, Nat.reduceEqDiff, Nat.reduceAdd, Nat.reduceMul, Nat.reducePow, Int.reduceToNat, Int.reducePow, Nat.zero_add, Nat.mul_one, Int.toNat_natCast, R51_1, b2, q1, cut_all q1]
  refine size_ok hm hO55 hF55 (by omega) (hr.gp g2) ?_
  intro h3 g3
  have b3 : h3.at h.next = _ := (g3.at_ _ h1 (by omega)).trans b2
  simp (maxSteps := 2000000) (disch := first | omega | assumption | (simp only [oneC_int, oneC_bool, oneC_str, oneC_ptr, oneC_sl, oneC_map]; done) | (simp only [List.length_cons, List.length_nil, List.length_set, List.length_map, List.length_replicate, List.length_append, List.length_take, List.length_drop, Int.toNat_natCast] <;> omega) | fail) only [Go.Rx.vi, Go.Rx.vb, Go.Rx.vstr, rxc, rxo, Nat.reduceLeDiff, List.getElem?_cons_zero, List.getElem?_cons_succ, List.length_cons, List.length_nil, List.set_cons_zero, List.set_cons_succ, ↓reduceIte, Bool.not_true, Bool.not_false, true_and, and_true, not_true_eq_false, not_false_eq_true, decide_true, decide_false, Nat.reduceEqDiff, Nat.reduceAdd, Nat.reduceMul, Nat.reducePow, Int.reduceToNat, Int.reducePow, Nat.zero_add, Nat.mul_one, Int.toNat_natCast]
  refine WCond_dec (fun hc => ?_) (fun hc => ?_)
  · simp (maxSteps := 2000000) (disch := first | omega | assumption | (simp only [oneC_int, oneC_bool, oneC_str, oneC_ptr, oneC_sl, oneC_map]; done) | (simp only [List.length_cons, List.length_nil, List.length_set, List.length_map, List.length_replicate, List.length_append, List.length_take, List.length_drop, Int.toNat_natCast] <;> omega) | fail) only [Go.Rx.vi, Go.Rx.vb, Go.Rx.vstr, rxc, rxo, Nat.reduceLeDiff, List.getElem?_cons_zero, List.getElem?_cons_succ, List.length_cons, List.length_nil, List.set_cons_zero, List.set_cons_succ, ↓reduceIte, Bool.not_true, Bool.not_false, true_and, and_true, not_true_eq_false, not_false_eq_true, decide_true, decide_false, Nat.reduceEqDiff, Nat.reduceAdd, Nat.reduceMul, Nat.reducePow, Int.reduceToNat, Int.reducePow, Nat.zero_add, Nat.mul_one, Int.toNat_natCast, R51_2]
    have := hk h3 (g2.trans g3)
    rw [if_pos (by omega)] at this
    exact this
  · simp (maxSteps := 2000000) (disch := first | omega | assumption | (simp only [oneC_int, oneC_bool, oneC_str, oneC_ptr, oneC_sl, oneC_map]; done) | (simp only [List.length_cons, List.length_nil, List.length_set, List.length_map, List.length_replicate, List.length_append, List.length_take, List.length_drop, Int.toNat_natCast] <;> omega) | fail) only [Go.Rx.vi, Go.Rx.vb, Go.Rx.vstr, rxc, rxo, Nat.reduceLeDiff, List.getElem?_cons_zero, List.getElem?_cons_succ, List.length_cons, List.length_nil, List.set_cons_zero, List.set_cons_succ, ↓reduceIte, Bool.not_true, Bool.not_false, true_and, and_true, not_true_eq_false, not_false_eq_true, decide_true, decide_false, Nat.reduceEqDiff, Nat.reduceAdd, Nat.reduceMul, Nat.reducePow, Int.reduceToNat, Int.reducePow, Nat.zero_add, Nat.mul_one, Int.toNat_natCast, R51_3, b3, q1, cut_all q1]
    rw [if_neg (by omega)] at hk
    refine depth_ok hm hO60 hF60 r (by have := g3.next; omega) (hr.gp (g2.trans g3)) (by omega) ?_
    intro h4 g4
    have b4 : h4.at h.next = _ := (g4.at_ _ h1 (by have := g3.next; omega)).trans b3
    simp (maxSteps := 2000000) (disch := first | omega | assumption | (simp only [oneC_int, oneC_bool, oneC_str, oneC_ptr, oneC_sl, oneC_map]; done) | (simp only [List.length_cons, List.length_nil, List.length_set, List.length_map, List.length_replicate, List.length_append, List.length_take, List.length_drop, Int.toNat_natCast] <;> omega) | fail) only [Go.Rx.vi, Go.Rx.vb, Go.Rx.vstr, rxc, rxo, Nat.reduceLeDiff, List.getElem?_cons_zero, List.getElem?_cons_succ, List.length_cons, List.length_nil, List.set_cons_zero, List.set_cons_succ, ↓reduceIte, Bool.not_true, Bool.not_false, true_and, and_true, not_true_eq_false, not_false_eq_true, decide_true, decide_false, Nat.reduceEqDiff, Nat.reduceAdd, Nat.reduceMul, Nat.reducePow, Int.reduceToNat, Int.reducePow, Nat.zero_add, Nat.mul_one, Int.toNat_natCast]
    refine WCond_dec (fun hc => ?_) (fun hc => ?_)
    · simp (maxSteps := 2000000) (disch := first | omega | assumption | (simp only [oneC_int, oneC_bool, oneC_str, oneC_ptr, oneC_sl, oneC_map]; done) | (simp only [List.length_cons, List.length_nil, List.length_set, List.length_map, List.length_replicate, List.length_append, List.length_take, List.length_drop, Int.toNat_natCast] <;> omega) | fail) only [Go.Rx.vi, Go.Rx.vb, Go.Rx.vstr, rxc, rxo, Nat.reduceLeDiff, List.getElem?_cons_zero, List.getElem?_cons_succ, List.length_cons, List.length_nil, List.set_cons_zero, List.set_cons_succ, ↓reduceIte, Bool.not_true, Bool.not_false, true_and, and_true, not_true_eq_false, not_false_eq_true, decide_true, decide_false, Nat.reduceEqDiff, Nat.reduceAdd, Nat.reduceMul, Nat.reducePow, Int.reduceToNat, Int.reducePow, Nat.zero_add, Nat.mul_one, Int.toNat_natCast, R51_4]
      have := hk h4 ((g2.trans g3).trans g4)
      rw [if_pos (by omega)] at this
      exact this
    · simp (maxSteps := 2000000) (disch := first | omega | assumption | (simp only [oneC_int, oneC_bool, oneC_str, oneC_ptr, oneC_sl, oneC_map]; done) | (simp only [List.length_cons, List.length_nil, List.length_set, List.length_map, List.length_replicate, List.length_append, List.length_take, List.length_drop, Int.toNat_natCast] <;> omega) | fail) only [Go.Rx.vi, Go.Rx.vb, Go.Rx.vstr, rxc, rxo, Nat.reduceLeDiff, List.getElem?_cons_zero, List.getElem?_cons_succ, List.length_cons, List.length_nil, List.set_cons_zero, List.set_cons_succ, ↓reduceIte, Bool.not_true, Bool.not_false, true_and, and_true, not_true_eq_false, not_false_eq_true, decide_true, decide_false, Nat.reduceEqDiff, Nat.reduceAdd, Nat.reduceMul, Nat.reducePow, Int.reduceToNat, Int.reducePow, Nat.zero_add, Nat.mul_one, Int.toNat_natCast, R51_5, b4, q1, cut_all q1]
      rw [if_neg (by omega)] at hk
      refine may_ok hm hO74 hF74 r (by have := g3.next; have := g4.next; omega) (hr.gp ((g2.trans g3).trans g4)) (by omega) ?_
      intro h5 g5
      have := hk h5 (((g2.trans g3).trans g4).trans g5)
      cases hmy : r.may with
      | true => simp (maxSteps := 2000000) (disch := first | omega | assumption | (simp only [oneC_int, oneC_bool, oneC_str, oneC_ptr, oneC_sl, oneC_map]; done) | (simp only [List.length_cons, List.length_nil, List.length_set, List.length_map, List.length_replicate, List.length_append, List.length_take, List.length_drop, Int.toNat_natCast] <;> omega) | fail) only [Go.Rx.vi, Go.Rx.vb, Go.Rx.vstr, rxc, rxo, Nat.reduceLeDiff, List.getElem?_cons_zero, List.getElem?_cons_succ, List.length_cons, List.length_nil, List.set_cons_zero, List.set_cons_succ, ↓reduceIte, Bool.not_true, Bool.not_false, true_and, and_true, not_true_eq_false, not_false_eq_true, decide_true, decide_false, Nat.reduceEqDiff, Nat.reduceAdd, Nat.reduceMul, Nat.reducePow, Int.reduceToNat, Int.reducePow, Nat.zero_add, Nat.mul_one, Int.toNat_natCast, R51_7]; simpa [hmy] using this
      | false => simp (maxSteps := 2000000) (disch := first | omega | assumption | (simp only [oneC_int, oneC_bool, oneC_str, oneC_ptr, oneC_sl, oneC_map]; done) | (simp only [List.length_cons, List.length_nil, List.length_set, List.length_map, List.length_replicate, List.length_append, List.length_take, List.length_drop, Int.toNat_natCast] <;> omega) | fail) only [Go.Rx.vi, Go.Rx.vb, Go.Rx.vstr, rxc, rxo, Nat.reduceLeDiff, List.getElem?_cons_zero, List.getElem?_cons_succ, List.length_cons, List.length_nil, List.set_cons_zero, List.set_cons_succ, ↓reduceIte, Bool.not_true, Bool.not_false, true_and, and_true, not_true_eq_false, not_false_eq_true, decide_true, decide_false, Nat.reduceEqDiff, Nat.reduceAdd, Nat.reduceMul, Nat.reducePow, Int.reduceToNat, Int.reducePow, Nat.zero_add, Nat.mul_one, Int.toNat_natCast, R51_6]; simpa [hmy] using this
end Go.Rx

namespace Go.Rx
variable {M : Mach}
set_option maxRecDepth 4000
set_option linter.unusedSimpArgs false
set_option linter.unusedVariables false

theorem nested_ok (hm : M.Mono) (hO : M.O 25 = none) (hF : M.F 25 = some A25) (r : RegD) : ∀ {cs : List Value} {n : Int} {h : Heap} {K : KF}, 1 ≤ h.next → RegC h r cs → 0 ≤ n → n ≤ 1000 →
    (∀ b h', GrowP h h' → K (.bool b) h') → WF M 25 [.agg ⟨cs⟩, .int .i64 n] h K := by
  refine RegD.ind (P := fun r => ∀ {cs : List Value} {n : Int} {h : Heap} {K : KF}, 1 ≤ h.next → RegC h r cs → 0 ≤ n → n ≤ 1000 →
    (∀ b h', GrowP h h' → K (.bool b) h') → WF M 25 [.agg ⟨cs⟩, .int .i64 n] h K) ?_ r
  intro k s ps ih cs n h K h1 hr hn0 hn1 hk
  rw [WF_eqT 6 hO hF]
  obtain ⟨q1, q2, q3, v, css, q4, q5, q6⟩ := hr.b
  rw [RegD.parts] at q6
  rw [RegD.kind] at q3
  have hlb := hr.lenB
  rw [RegD.parts] at hlb
  simp (maxSteps := 2000000) (disch := first | omega | assumption | (simp only [oneC_int, oneC_bool, oneC_str, oneC_ptr, oneC_sl, oneC_map]; done) | (simp only [List.length_cons, List.length_nil, List.length_set, List.length_map, List.length_replicate, List.length_append, List.length_take, List.length_drop, Int.toNat_natCast] <;> omega) | fail) only [Go.Rx.vi, Go.Rx.vb, Go.Rx.vstr, rxc, rxo, Nat.reduceLeDiff, List.getElem?_cons_zero, List.getElem?_cons_succ, List.length_cons, List.length_nil, List.set_cons_zero, List.set_cons_succ, ↓reduceIte, Bool.not_true, Bool.not_false, true_and, and_true, not_true_eq_false, not_false_eq_true, decide_true, decide_false, Nat.reduceEqDiff, Nat.reduceAdd, Nat.reduceMul, Nat.reducePow, Int.reduceToNat, Int.reducePow, Nat.zero_add, Nat.mul_one, Int.toNat_natCast, A25, R25_0, q1]
  obtain ⟨h2, e2, g2, n2, b2⟩ := boxed h cs 48
  rw [e2]
  have hpl := (RegL.iff.1 q6).1
  have hsl := sizeR_len ps
  have fin : ∀ (e : Env) (n : Int), 0 ≤ n → n ≤ 1000 → e.g 1 = .int .i64 n → e.g 2 = .pointer (some ⟨h.next, 0, none⟩) → WB M R25_5 e h2 (SeqK M (.block 0 (.loop B25_0)) (SeqK M (.seq (.reg R25_10) .ret) (FunK [(4, none)] K)) .normal) := by
    intro e n hn0 hn1 e1 e2
    rw [← TE_nil (n := 6) (e := e)]
    simp (maxSteps := 2000000) (disch := first | omega | assumption | (simp only [oneC_int, oneC_bool, oneC_str, oneC_ptr, oneC_sl, oneC_map]; done) | (simp only [List.length_cons, List.length_nil, List.length_set, List.length_map, List.length_replicate, List.length_append, List.length_take, List.length_drop, Int.toNat_natCast] <;> omega) | fail) only [Go.Rx.vi, Go.Rx.vb, Go.Rx.vstr, rxc, rxo, Nat.reduceLeDiff, List.getElem?_cons_zero, List.getElem?_cons_succ, List.length_cons, List.length_nil, List.set_cons_zero, List.set_cons_succ, ↓reduceIte, Bool.not_true, Bool.not_false, true_and, and_true, not_true_eq_false, not_false_eq_true, decide_true, decide_false, Nat.reduceEqDiff, Nat.reduceAdd, Nat.reduceMul, Nat.reducePow, Int.reduceToNat, Int.reducePow, Nat.zero_add, Nat.mul_one, Int.toNat_natCast, R25_5, e1, e2]
    refine WC_bloop 6 (fun m e h' => ∃ (i : Nat), m = css.length - i ∧ i ≤ css.length ∧ e.g 1 = .int .i64 n ∧ e.g 2 = .pointer (some ⟨h.next, 0, none⟩) ∧ e.g 5 = .int .i64 i ∧ GrowP h2 h')
      (fun e h' => GrowP h2 h') ?_ ?_ ?_
    · refine ⟨_, 0, rfl, by omega, ?_, ?_, ?_, .refl _⟩
      · simp (maxSteps := 2000000) (disch := first | omega | assumption | (simp only [oneC_int, oneC_bool, oneC_str, oneC_ptr, oneC_sl, oneC_map]; done) | (simp only [List.length_cons, List.length_nil, List.length_set, List.length_map, List.length_replicate, List.length_append, List.length_take, List.length_drop, Int.toNat_natCast] <;> omega) | fail) only [Go.Rx.vi, Go.Rx.vb, Go.Rx.vstr, rxc, rxo, Nat.reduceLeDiff, List.getElem?_cons_zero, List.getElem?_cons_succ, List.length_cons, List.length_nil, List.set_cons_zero, List.set_cons_succ, ↓reduceIte, Bool.not_true, Bool.not_false, true_and, and_true, not_true_eq_false, not_false_eq_true, decide_true, decide_false, Nat.reduceEqDiff, Nat.reduceAdd, Nat.reduceMul, Nat.reducePow, Int.reduceToNat, Int.reducePow, Nat.zero_add, Nat.mul_one, Int.toNat_natCast, e1]
      · simp (maxSteps := 2000000) (disch := first | omega | assumption | (simp only [oneC_int, oneC_bool, oneC_str, oneC_ptr, oneC_sl, oneC_map]; done) | (simp only [List.length_cons, List.length_nil, List.length_set, List.length_map, List.length_replicate, List.length_append, List.length_take, List.length_drop, Int.toNat_natCast] <;> omega) | fail) only [Go.Rx.vi, Go.Rx.vb, Go.Rx.vstr, rxc, rxo, Nat.reduceLeDiff, List.getElem?_cons_zero, List.getElem?_cons_succ, List.length_cons, List.length_nil, List.set_cons_zero, List.set_cons_succ, ↓reduceIte, Bool.not_true, Bool.not_false, true_and, and_true, not_true_eq_false, not_false_eq_true, decide_true, decide_false, Nat.reduceEqDiff, Nat.reduceAdd, Nat.reduceMul, Nat.reducePow, Int.reduceToNat, Int.reducePow, Nat.zero_add, Nat.mul_one, Int.toNat_natCast, e2]
      · simp (maxSteps := 2000000) (disch := first | omega | assumption | (simp only [oneC_int, oneC_bool, oneC_str, oneC_ptr, oneC_sl, oneC_map]; done) | (simp only [List.length_cons, List.length_nil, List.length_set, List.length_map, List.length_replicate, List.length_append, List.length_take, List.length_drop, Int.toNat_natCast] <;> omega) | fail) only [Go.Rx.vi, Go.Rx.vb, Go.Rx.vstr, rxc, rxo, Nat.reduceLeDiff, List.getElem?_cons_zero, List.getElem?_cons_succ, List.length_cons, List.length_nil, List.set_cons_zero, List.set_cons_succ, ↓reduceIte, Bool.not_true, Bool.not_false, true_and, and_true, not_true_eq_false, not_false_eq_true, decide_true, decide_false, Nat.reduceEqDiff, Nat.reduceAdd, Nat.reduceMul, Nat.reducePow, Int.reduceToNat, Int.reducePow, Nat.zero_add, Nat.mul_one, Int.toNat_natCast]; rfl
    · rintro m e h' ⟨i, rfl, hi, e1, e2, e5, g⟩
      have b3 : h'.at h.next = _ := (g.at_ _ h1 (by omega)).trans b2
      have r2 := (q5.gp (g2.trans g)).r
      simp (maxSteps := 2000000) (disch := first | omega | assumption | (simp only [oneC_int, oneC_bool, oneC_str, oneC_ptr, oneC_sl, oneC_map]; done) | (simp only [List.length_cons, List.length_nil, List.length_set, List.length_map, List.length_replicate, List.length_append, List.length_take, List.length_drop, Int.toNat_natCast] <;> omega) | fail) only [Go.Rx.vi, Go.Rx.vb, Go.Rx.vstr, rxc, rxo, Nat.reduceLeDiff, List.getElem?_cons_zero, List.getElem?_cons_succ, List.length_cons, List.length_nil, List.set_cons_zero, List.set_cons_succ, ↓reduceIte, Bool.not_true, Bool.not_false, true_and, and_true, not_true_eq_false, not_false_eq_true, decide_true, decide_false, Nat.reduceEqDiff, Nat.reduceAdd, Nat.reduceMul, Nat.reducePow, Int.reduceToNat, Int.reducePow, Nat.zero_add, Nat.mul_one, Int.toNat_natCast, B25_0, R25_6, e1, e2, e5, b3, q4, r2]
      refine WCond_dec (fun hc => ?_) (fun hc => ?_)
      · obtain ⟨p, hp, hpc⟩ := q6.get (i := i) (by omega)
        obtain ⟨p1, p2, p3, pv, pss, p4, p5, p6⟩ := hpc.b
        simp (maxSteps := 2000000) (disch := first | omega | assumption | (simp only [oneC_int, oneC_bool, oneC_str, oneC_ptr, oneC_sl, oneC_map]; done) | (simp only [List.length_cons, List.length_nil, List.length_set, List.length_map, List.length_replicate, List.length_append, List.length_take, List.length_drop, Int.toNat_natCast] <;> omega) | fail) only [Go.Rx.vi, Go.Rx.vb, Go.Rx.vstr, rxc, rxo, Nat.reduceLeDiff, List.getElem?_cons_zero, List.getElem?_cons_succ, List.length_cons, List.length_nil, List.set_cons_zero, List.set_cons_succ, ↓reduceIte, Bool.not_true, Bool.not_false, true_and, and_true, not_true_eq_false, not_false_eq_true, decide_true, decide_false, Nat.reduceEqDiff, Nat.reduceAdd, Nat.reduceMul, Nat.reducePow, Int.reduceToNat, Int.reducePow, Nat.zero_add, Nat.mul_one, Int.toNat_natCast, R25_7, e1, e2, e5, b3, q4, r2]
        have hps := sizeR_get hp
        refine ih p (List.mem_of_getElem? hp) (by have := g.next; omega) ((hpc.gp g2).gp g) hn0 hn1 ?_
        intro b h5 g5
        cases b with
        | true =>
          simp (maxSteps := 2000000) (disch := first | omega | assumption | (simp only [oneC_int, oneC_bool, oneC_str, oneC_ptr, oneC_sl, oneC_map]; done) | (simp only [List.length_cons, List.length_nil, List.length_set, List.length_map, List.length_replicate, List.length_append, List.length_take, List.length_drop, Int.toNat_natCast] <;> omega) | fail) only [Go.Rx.vi, Go.Rx.vb, Go.Rx.vstr, rxc, rxo, Nat.reduceLeDiff, List.getElem?_cons_zero, List.getElem?_cons_succ, List.length_cons, List.length_nil, List.set_cons_zero, List.set_cons_succ, ↓reduceIte, Bool.not_true, Bool.not_false, true_and, and_true, not_true_eq_false, not_false_eq_true, decide_true, decide_false, Nat.reduceEqDiff, Nat.reduceAdd, Nat.reduceMul, Nat.reducePow, Int.reduceToNat, Int.reducePow, Nat.zero_add, Nat.mul_one, Int.toNat_natCast, R25_8]
          exact hk _ _ ((g2.trans g).trans g5)
        | false =>
          simp (maxSteps := 2000000) (disch := first | omega | assumption | (simp only [oneC_int, oneC_bool, oneC_str, oneC_ptr, oneC_sl, oneC_map]; done) | (simp only [List.length_cons, List.length_nil, List.length_set, List.length_map, List.length_replicate, List.length_append, List.length_take, List.length_drop, Int.toNat_natCast] <;> omega) | fail) only [Go.Rx.vi, Go.Rx.vb, Go.Rx.vstr, rxc, rxo, Nat.reduceLeDiff, List.getElem?_cons_zero, List.getElem?_cons_succ, List.length_cons, List.length_nil, List.set_cons_zero, List.set_cons_succ, ↓reduceIte, Bool.not_true, Bool.not_false, true_and, and_true, not_true_eq_false, not_false_eq_true, decide_true, decide_false, Nat.reduceEqDiff, Nat.reduceAdd, Nat.reduceMul, Nat.reducePow, Int.reduceToNat, Int.reducePow, Nat.zero_add, Nat.mul_one, Int.toNat_natCast, R25_9, e1, e2, e5]
          refine ⟨_, ?_, i + 1, rfl, by omega, ?_, g.trans g5⟩
          · omega
          · simp
      · simp (maxSteps := 2000000) (disch := first | omega | assumption | (simp only [oneC_int, oneC_bool, oneC_str, oneC_ptr, oneC_sl, oneC_map]; done) | (simp only [List.length_cons, List.length_nil, List.length_set, List.length_map, List.length_replicate, List.length_append, List.length_take, List.length_drop, Int.toNat_natCast] <;> omega) | fail) only [Go.Rx.vi, Go.Rx.vb, Go.Rx.vstr, rxc, rxo, Nat.reduceLeDiff, List.getElem?_cons_zero, List.getElem?_cons_succ, List.length_cons, List.length_nil, List.set_cons_zero, List.set_cons_succ, ↓reduceIte, Bool.not_true, Bool.not_false, true_and, and_true, not_true_eq_false, not_false_eq_true, decide_true, decide_false, Nat.reduceEqDiff, Nat.reduceAdd, Nat.reduceMul, Nat.reducePow, Int.reduceToNat, Int.reducePow, Nat.zero_add, Nat.mul_one, Int.toNat_natCast]
        exact g
    · rintro e h' g
      simp (maxSteps := 2000000) (disch := first | omega | assumption | (simp only [oneC_int, oneC_bool, oneC_str, oneC_ptr, oneC_sl, oneC_map]; done) | (simp only [List.length_cons, List.length_nil, List.length_set, List.length_map, List.length_replicate, List.length_append, List.length_take, List.length_drop, Int.toNat_natCast] <;> omega) | fail) only [Go.Rx.vi, Go.Rx.vb, Go.Rx.vstr, rxc, rxo, Nat.reduceLeDiff, List.getElem?_cons_zero, List.getElem?_cons_succ, List.length_cons, List.length_nil, List.set_cons_zero, List.set_cons_succ, ↓reduceIte, Bool.not_true, Bool.not_false, true_and, and_true, not_true_eq_false, not_false_eq_true, decide_true, decide_false, Nat.reduceEqDiff, Nat.reduceAdd, Nat.reduceMul, Nat.reducePow, Int.reduceToNat, Int.reducePow, Nat.zero_add, Nat.mul_one, Int.toNat_natCast, R25_10]
      exact hk _ _ (g2.trans g)
  simp (maxSteps := 2000000) (disch := first | omega | assumption | (simp only [oneC_int, oneC_bool, oneC_str, oneC_ptr, oneC_sl, oneC_map]; done) | (simp only [List.length_cons, List.length_nil, List.length_set, List.length_map, List.length_replicate, List.length_append, List.length_take, List.length_drop, Int.toNat_natCast] <;> omega) | fail) only [Go.Rx.vi, Go.Rx.vb, Go.Rx.vstr, rxc, rxo, Nat.reduceLeDiff, List.getElem?_cons_zero, List.getElem?_cons_succ, List.length_cons, List.length_nil, List.set_cons_zero, List.set_cons_succ, ↓reduceIte, Bool.not_true, Bool.not_false, true_and, and_true, not_true_eq_false, not_false_eq_true, decide_true, decide_false, Nat.reduceEqDiff, Nat.reduceAdd, Nat.reduceMul, Nat.reducePow, Int.reduceToNat, Int.reducePow, Nat.zero_add, Nat.mul_one, Int.toNat_natCast, R25_1, b2, q3]
  have down : ∀ (e : Env), e.g 1 = .int .i64 n → e.g 2 = .pointer (some ⟨h.next, 0, none⟩) → WB M R25_2 e h2 (SeqK M (.seq (.seq (.reg R25_3) (.cond (.t 17) (.seq (.reg R25_4) .ret) .skip)) (.seq (.seq (.reg R25_5) (.block 0 (.loop B25_0))) (.seq (.reg R25_10) .ret))) (FunK [(4, none)] K) .normal) := by
    intro e e1 e2
    rw [← TE_nil (n := 6) (e := e)]
    simp (maxSteps := 2000000) (disch := first | omega | assumption | (simp only [oneC_int, oneC_bool, oneC_str, oneC_ptr, oneC_sl, oneC_map]; done) | (simp only [List.length_cons, List.length_nil, List.length_set, List.length_map, List.length_replicate, List.length_append, List.length_take, List.length_drop, Int.toNat_natCast] <;> omega) | fail) only [Go.Rx.vi, Go.Rx.vb, Go.Rx.vstr, rxc, rxo, Nat.reduceLeDiff, List.getElem?_cons_zero, List.getElem?_cons_succ, List.length_cons, List.length_nil, List.set_cons_zero, List.set_cons_succ, ↓reduceIte, Bool.not_true, Bool.not_false, true_and, and_true, not_true_eq_false, not_false_eq_true, decide_true, decide_false, Nat.reduceEqDiff, Nat.reduceAdd, Nat.reduceMul, Nat.reducePow, Int.reduceToNat, Int.reducePow, Nat.zero_add, Nat.mul_one, Int.toNat_natCast, R25_2, R25_3, e1, e2]
    refine WCond_dec (fun hc => ?_) (fun hc => ?_)
    · simp (maxSteps := 2000000) (disch := first | omega | assumption | (simp only [oneC_int, oneC_bool, oneC_str, oneC_ptr, oneC_sl, oneC_map]; done) | (simp only [List.length_cons, List.length_nil, List.length_set, List.length_map, List.length_replicate, List.length_append, List.length_take, List.length_drop, Int.toNat_natCast] <;> omega) | fail) only [Go.Rx.vi, Go.Rx.vb, Go.Rx.vstr, rxc, rxo, Nat.reduceLeDiff, List.getElem?_cons_zero, List.getElem?_cons_succ, List.length_cons, List.length_nil, List.set_cons_zero, List.set_cons_succ, ↓reduceIte, Bool.not_true, Bool.not_false, true_and, and_true, not_true_eq_false, not_false_eq_true, decide_true, decide_false, Nat.reduceEqDiff, Nat.reduceAdd, Nat.reduceMul, Nat.reducePow, Int.reduceToNat, Int.reducePow, Nat.zero_add, Nat.mul_one, Int.toNat_natCast, R25_4]
      exact hk _ _ g2
    · simp (maxSteps := 2000000) (disch := first | omega | assumption | (simp only [oneC_int, oneC_bool, oneC_str, oneC_ptr, oneC_sl, oneC_map]; done) | (simp only [List.length_cons, List.length_nil, List.length_set, List.length_map, List.length_replicate, List.length_append, List.length_take, List.length_drop, Int.toNat_natCast] <;> omega) | fail) only [Go.Rx.vi, Go.Rx.vb, Go.Rx.vstr, rxc, rxo, Nat.reduceLeDiff, List.getElem?_cons_zero, List.getElem?_cons_succ, List.length_cons, List.length_nil, List.set_cons_zero, List.set_cons_succ, ↓reduceIte, Bool.not_true, Bool.not_false, true_and, and_true, not_true_eq_false, not_false_eq_true, decide_true, decide_false, Nat.reduceEqDiff, Nat.reduceAdd, Nat.reduceMul, Nat.reducePow, Int.reduceToNat, Int.reducePow, Nat.zero_add, Nat.mul_one, Int.toNat_natCast]
      exact fin _ (n - 1) (by omega) (by omega) (by simp (maxSteps := 2000000) (disch := first | omega | assumption | (simp only [oneC_int, oneC_bool, oneC_str, oneC_ptr, oneC_sl, oneC_map]; done) | (simp only [List.length_cons, List.length_nil, List.length_set, List.length_map, List.length_replicate, List.length_append, List.length_take, List.length_drop, Int.toNat_natCast] <;> omega) | fail) only [Go.Rx.vi, Go.Rx.vb, Go.Rx.vstr, rxc, rxo, Nat.reduceLeDiff, List.getElem?_cons_zero, List.getElem?_cons_succ, List.length_cons, List.length_nil, List.set_cons_zero, List.set_cons_succ, ↓reduceIte, Bool.not_true, Bool.not_false, true_and, and_true, not_true_eq_false, not_false_eq_true, decide_true, decide_false, Nat.reduceEqDiff, Nat.reduceAdd, Nat.reduceMul, Nat.reducePow, Int.reduceToNat, Int.reducePow, Nat.zero_add, Nat.mul_one, Int.toNat_natCast, e1]) (by simp (maxSteps := 2000000) (disch := first | omega | assumption | (simp only [oneC_int, oneC_bool, oneC_str, oneC_ptr, oneC_sl, oneC_map]; done) | (simp only [List.length_cons, List.length_nil, List.length_set, List.length_map, List.length_replicate, List.length_append, List.length_take, List.length_drop, Int.toNat_natCast] <;> omega) | fail) only [Go.Rx.vi, Go.Rx.vb, Go.Rx.vstr, rxc, rxo, Nat.reduceLeDiff, List.getElem?_cons_zero, List.getElem?_cons_succ, List.length_cons, List.length_nil, List.set_cons_zero, List.set_cons_succ, ↓reduceIte, Bool.not_true, Bool.not_false, true_and, and_true, not_true_eq_false, not_false_eq_true, decide_true, decide_false, Nat.reduceEqDiff, Nat.reduceAdd, Nat.reduceMul, Nat.reducePow, Int.reduceToNat, Int.reducePow, Nat.zero_add, Nat.mul_one, Int.toNat_natCast, e2])
  by_cases hk5 : k = 5
  · rw [decide_eq_true hk5]
    simp (maxSteps := 2000000) (disch := first | omega | assumption | (simp only [oneC_int, oneC_bool, oneC_str, oneC_ptr, oneC_sl, oneC_map]; done) | (simp only [List.length_cons, List.length_nil, List.length_set, List.length_map, List.length_replicate, List.length_append, List.length_take, List.length_drop, Int.toNat_natCast] <;> omega) | fail) only [Go.Rx.vi, Go.Rx.vb, Go.Rx.vstr, rxc, rxo, Nat.reduceLeDiff, List.getElem?_cons_zero, List.getElem?_cons_succ, List.length_cons, List.length_nil, List.set_cons_zero, List.set_cons_succ, ↓reduceIte, Bool.not_true, Bool.not_false, true_and, and_true, not_true_eq_false, not_false_eq_true, decide_true, decide_false, Nat.reduceEqDiff, Nat.reduceAdd, Nat.reduceMul, Nat.reducePow, Int.reduceToNat, Int.reducePow, Nat.zero_add, Nat.mul_one, Int.toNat_natCast]
    exact down _ (by simp (maxSteps := 2000000) (disch := first | omega | assumption | (simp only [oneC_int, oneC_bool, oneC_str, oneC_ptr, oneC_sl, oneC_map]; done) | (simp only [List.length_cons, List.length_nil, List.length_set, List.length_map, List.length_replicate, List.length_append, List.length_take, List.length_drop, Int.toNat_natCast] <;> omega) | fail) only [Go.Rx.vi, Go.Rx.vb, Go.Rx.vstr, rxc, rxo, Nat.reduceLeDiff, List.getElem?_cons_zero, List.getElem?_cons_succ, List.length_cons, List.length_nil, List.set_cons_zero, List.set_cons_succ, ↓reduceIte, Bool.not_true, Bool.not_false, true_and, and_true, not_true_eq_false, not_false_eq_true, decide_true, decide_false, Nat.reduceEqDiff, Nat.reduceAdd, Nat.reduceMul, Nat.reducePow, Int.reduceToNat, Int.reducePow, Nat.zero_add, Nat.mul_one, Int.toNat_natCast]) (by simp (maxSteps := 2000000) (disch := first | omega | assumption | (simp only [oneC_int, oneC_bool, oneC_str, oneC_ptr, oneC_sl, oneC_map]; done) | (simp only [List.length_cons, List.length_nil, List.length_set, List.length_map, List.length_replicate, List.length_append, List.length_take, List.length_drop, Int.toNat_natCast] <;> omega) | fail) only [Go.Rx.vi, Go.Rx.vb, Go.Rx.vstr, rxc, rxo, Nat.reduceLeDiff, List.getElem?_cons_zero, List.getElem?_cons_succ, List.length_cons, List.length_nil, List.set_cons_zero, List.set_cons_succ, ↓reduceIte, Bool.not_true, Bool.not_false, true_and, and_true, not_true_eq_false, not_false_eq_true, decide_true, decide_false, Nat.reduceEqDiff, Nat.reduceAdd, Nat.reduceMul, Nat.reducePow, Int.reduceToNat, Int.reducePow, Nat.zero_add, Nat.mul_one, Int.toNat_natCast])
  · rw [decide_eq_false hk5]
    simp (maxSteps := 2000000) (disch := first | omega | assumption | (simp only [oneC_int, oneC_bool, oneC_str, oneC_ptr, oneC_sl, oneC_map]; done) | (simp only [List.length_cons, List.length_nil, List.length_set, List.length_map, List.length_replicate, List.length_append, List.length_take, List.length_drop, Int.toNat_natCast] <;> omega) | fail) only [Go.Rx.vi, Go.Rx.vb, Go.Rx.vstr, rxc, rxo, Nat.reduceLeDiff, List.getElem?_cons_zero, List.getElem?_cons_succ, List.length_cons, List.length_nil, List.set_cons_zero, List.set_cons_succ, ↓reduceIte, Bool.not_true, Bool.not_false, true_and, and_true, not_true_eq_false, not_false_eq_true, decide_true, decide_false, Nat.reduceEqDiff, Nat.reduceAdd, Nat.reduceMul, Nat.reducePow, Int.reduceToNat, Int.reducePow, Nat.zero_add, Nat.mul_one, Int.toNat_natCast, b2, q3]
    refine WCond_dec (fun hc => ?_) (fun hc => ?_)
    · simp (maxSteps := 2000000) (disch := first | omega | assumption | (simp only [oneC_int, oneC_bool, oneC_str, oneC_ptr, oneC_sl, oneC_map]; done) | (simp only [List.length_cons, List.length_nil, List.length_set, List.length_map, List.length_replicate, List.length_append, List.length_take, List.length_drop, Int.toNat_natCast] <;> omega) | fail) only [Go.Rx.vi, Go.Rx.vb, Go.Rx.vstr, rxc, rxo, Nat.reduceLeDiff, List.getElem?_cons_zero, List.getElem?_cons_succ, List.length_cons, List.length_nil, List.set_cons_zero, List.set_cons_succ, ↓reduceIte, Bool.not_true, Bool.not_false, true_and, and_true, not_true_eq_false, not_false_eq_true, decide_true, decide_false, Nat.reduceEqDiff, Nat.reduceAdd, Nat.reduceMul, Nat.reducePow, Int.reduceToNat, Int.reducePow, Nat.zero_add, Nat.mul_one, Int.toNat_natCast]
      exact down _ (by simp (maxSteps := 2000000) (disch := first | omega | assumption | (simp only [oneC_int, oneC_bool, oneC_str, oneC_ptr, oneC_sl, oneC_map]; done) | (simp only [List.length_cons, List.length_nil, List.length_set, List.length_map, List.length_replicate, List.length_append, List.length_take, List.length_drop, Int.toNat_natCast] <;> omega) | fail) only [Go.Rx.vi, Go.Rx.vb, Go.Rx.vstr, rxc, rxo, Nat.reduceLeDiff, List.getElem?_cons_zero, List.getElem?_cons_succ, List.length_cons, List.length_nil, List.set_cons_zero, List.set_cons_succ, ↓reduceIte, Bool.not_true, Bool.not_false, true_and, and_true, not_true_eq_false, not_false_eq_true, decide_true, decide_false, Nat.reduceEqDiff, Nat.reduceAdd, Nat.reduceMul, Nat.reducePow, Int.reduceToNat, Int.reducePow, Nat.zero_add, Nat.mul_one, Int.toNat_natCast]) (by simp (maxSteps := 2000000) (disch := first | omega | assumption | (simp only [oneC_int, oneC_bool, oneC_str, oneC_ptr, oneC_sl, oneC_map]; done) | (simp only [List.length_cons, List.length_nil, List.length_set, List.length_map, List.length_replicate, List.length_append, List.length_take, List.length_drop, Int.toNat_natCast] <;> omega) | fail) only [Go.Rx.vi, Go.Rx.vb, Go.Rx.vstr, rxc, rxo, Nat.reduceLeDiff, List.getElem?_cons_zero, List.getElem?_cons_succ, List.length_cons, List.length_nil, List.set_cons_zero, List.set_cons_succ, ↓reduceIte, Bool.not_true, Bool.not_false, true_and, and_true, not_true_eq_false, not_false_eq_true, decide_true, decide_false, Nat.reduceEqDiff, Nat.reduceAdd, Nat.reduceMul, Nat.reducePow, Int.reduceToNat, Int.reducePow, Nat.zero_add, Nat.mul_one, Int.toNat_natCast])
    · simp (maxSteps := 2000000) (disch := first | omega | assumption | (simp only [oneC_int, oneC_bool, oneC_str, oneC_ptr, oneC_sl, oneC_map]; done) | (simp only [List.length_cons, List.length_nil, List.length_set, List.length_map, List.length_replicate, List.length_append, List.length_take, List.length_drop, Int.toNat_natCast] <;> omega) | fail) only [Go.Rx.vi, Go.Rx.vb, Go.Rx.vstr, rxc, rxo, Nat.reduceLeDiff, List.getElem?_cons_zero, List.getElem?_cons_succ, List.length_cons, List.length_nil, List.set_cons_zero, List.set_cons_succ, ↓reduceIte, Bool.not_true, Bool.not_false, true_and, and_true, not_true_eq_false, not_false_eq_true, decide_true, decide_false, Nat.reduceEqDiff, Nat.reduceAdd, Nat.reduceMul, Nat.reducePow, Int.reduceToNat, Int.reducePow, Nat.zero_add, Nat.mul_one, Int.toNat_natCast, R25_3]
      exact fin _ n (by omega) (by omega) (by simp (maxSteps := 2000000) (disch := first | omega | assumption | (simp only [oneC_int, oneC_bool, oneC_str, oneC_ptr, oneC_sl, oneC_map]; done) | (simp only [List.length_cons, List.length_nil, List.length_set, List.length_map, List.length_replicate, List.length_append, List.length_take, List.length_drop, Int.toNat_natCast] <;> omega) | fail) only [Go.Rx.vi, Go.Rx.vb, Go.Rx.vstr, rxc, rxo, Nat.reduceLeDiff, List.getElem?_cons_zero, List.getElem?_cons_succ, List.length_cons, List.length_nil, List.set_cons_zero, List.set_cons_succ, ↓reduceIte, Bool.not_true, Bool.not_false, true_and, and_true, not_true_eq_false, not_false_eq_true, decide_true, decide_false, Nat.reduceEqDiff, Nat.reduceAdd, Nat.reduceMul, Nat.reducePow, Int.reduceToNat, Int.reducePow, Nat.zero_add, Nat.mul_one, Int.toNat_natCast]) (by simp (maxSteps := 2000000) (disch := first | omega | assumption | (simp only [oneC_int, oneC_bool, oneC_str, oneC_ptr, oneC_sl, oneC_map]; done) | (simp only [List.length_cons, List.length_nil, List.length_set, List.length_map, List.length_replicate, List.length_append, List.length_take, List.length_drop, Int.toNat_natCast] <;> omega) | fail) only [Go.Rx.vi, Go.Rx.vb, Go.Rx.vstr, rxc, rxo, Nat.reduceLeDiff, List.getElem?_cons_zero, List.getElem?_cons_succ, List.length_cons, List.length_nil, List.set_cons_zero, List.set_cons_succ, ↓reduceIte, Bool.not_true, Bool.not_false, true_and, and_true, not_true_eq_false, not_false_eq_true, decide_true, decide_false, Nat.reduceEqDiff, Nat.reduceAdd, Nat.reduceMul, Nat.reducePow, Int.reduceToNat, Int.reducePow, Nat.zero_add, Nat.mul_one, Int.toNat_natCast])

theorem big_ok (hm : M.Mono) (hO : M.O 24 = none) (hF : M.F 24 = some A24) {r : RegD} {cs : List Value} {n : Int} {h : Heap} {K : KF} (h1 : 1 ≤ h.next) (hr : RegC h r cs) (hn0 : 0 ≤ n) (hn1 : n ≤ 1000)
    (hk : ∀ b h', GrowP h h' → K (.bool b) h') : WF M 24 [.agg ⟨cs⟩, .int .i64 n] h K := by
  rw [WF_eqT 9 hO hF]
  obtain ⟨q1, q2, q3, v, css, q4, q5, q6⟩ := hr.b
  simp (maxSteps := 2000000) (disch := first | omega | assumption | (simp only [oneC_int, oneC_bool, oneC_str, oneC_ptr, oneC_sl, oneC_map]; done) | (simp only [List.length_cons, List.length_nil, List.length_set, List.length_map, List.length_replicate, List.length_append, List.length_take, List.length_drop, Int.toNat_natCast] <;> omega) | fail) only [Go.Rx.vi, Go.Rx.vb, Go.Rx.vstr, rxc, rxo, Nat.reduceLeDiff, List.getElem?_cons_zero, List.getElem?_cons_succ, List.length_cons, List.length_nil, List.set_cons_zero, List.set_cons_succ, ↓reduceIte, Bool.not_true, Bool.not_false, true_and, and_true, not_true_eq_false, not_false_eq_true, decide_true, decide_false, Nat.reduceEqDiff, Nat.reduceAdd, Nat.reduceMul, Nat.reducePow, Int.reduceToNat, Int.reducePow, Nat.zero_add, Nat.mul_one, Int.toNat_natCast, A24, R24_0, q1]
  obtain ⟨h2, e2, g2, n2, b2⟩ := boxed h cs 48
  rw [e2]
  simp (maxSteps := 2000000) (disch := first | omega | assumption | (simp only [oneC_int, oneC_bool, oneC_str, oneC_ptr, oneC_sl, oneC_map]; done) | (simp only [List.length_cons, List.length_nil, List.length_set, List.length_map, List.length_replicate, List.length_append, List.length_take, List.length_drop, Int.toNat_natCast] <;> omega) | fail) only [Go.Rx.vi, Go.Rx.vb, Go.Rx.vstr, rxc, rxo, Nat.reduceLeDiff, List.getElem?_cons_zero, List.getElem?_cons_succ, List.length_cons, List.length_nil, List.set_cons_zero, List.set_cons_succ, ↓reduceIte, Bool.not_true, Bool.not_false, true_and, and_true, not_true_eq_false, not_false_eq_true, decide_true, decide_false, Nat.reduceEqDiff, Nat.reduceAdd, Nat.reduceMul, Nat.reducePow, Int.reduceToNat, Int.reducePow, Nat.zero_add, Nat.mul_one, Int.toNat_natCast, R24_1, R24_2, b2, q1, cut_all q1, fill6 q1]
  obtain ⟨h3, e3, g3, n3, b3⟩ := boxed h2 cs 48
  rw [e3]
  have own : OwnN 48 6 h3 (.slice (some ⟨h2.next, 0, none⟩) 1 1) [cs] := by rw [← e3]; exact own_one (by omega) q1
  have g0 := g2.trans g3
  refine WC_bloop 9 (fun m e h' => ∃ (i : Nat) (w : Value) (ds : List RegD) (dss : List (List Value)), m = 2000 - i ∧ i ≤ 1001 ∧ ds.length ≤ 1003 ∧ e.g 1 = .int .i64 n ∧ e.g 6 = .int .i64 i ∧ e.g 5 = w ∧ h.next ≤ bno w ∧ OwnN 48 6 h' w dss ∧ RegL h ds dss ∧ GrowP h h')
    (fun e h' => GrowP h h') ?_ ?_ ?_
  · refine ⟨_, 0, .slice (some ⟨h2.next, 0, none⟩) 1 1, [r], [cs], rfl, by omega, by simp, ?_, ?_, ?_, ?_, own, .one hr, g0⟩
    · simp (maxSteps := 2000000) (disch := first | omega | assumption | (simp only [oneC_int, oneC_bool, oneC_str, oneC_ptr, oneC_sl, oneC_map]; done) | (simp only [List.length_cons, List.length_nil, List.length_set, List.length_map, List.length_replicate, List.length_append, List.length_take, List.length_drop, Int.toNat_natCast] <;> omega) | fail) only [Go.Rx.vi, Go.Rx.vb, Go.Rx.vstr, rxc, rxo, Nat.reduceLeDiff, List.getElem?_cons_zero, List.getElem?_cons_succ, List.length_cons, List.length_nil, List.set_cons_zero, List.set_cons_succ, ↓reduceIte, Bool.not_true, Bool.not_false, true_and, and_true, not_true_eq_false, not_false_eq_true, decide_true, decide_false, Nat.reduceEqDiff, Nat.reduceAdd, Nat.reduceMul, Nat.reducePow, Int.reduceToNat, Int.reducePow, Nat.zero_add, Nat.mul_one, Int.toNat_natCast]
    · simp (maxSteps := 2000000) (disch := first | omega | assumption | (simp only [oneC_int, oneC_bool, oneC_str, oneC_ptr, oneC_sl, oneC_map]; done) | (simp only [List.length_cons, List.length_nil, List.length_set, List.length_map, List.length_replicate, List.length_append, List.length_take, List.length_drop, Int.toNat_natCast] <;> omega) | fail) only [Go.Rx.vi, Go.Rx.vb, Go.Rx.vstr, rxc, rxo, Nat.reduceLeDiff, List.getElem?_cons_zero, List.getElem?_cons_succ, List.length_cons, List.length_nil, List.set_cons_zero, List.set_cons_succ, ↓reduceIte, Bool.not_true, Bool.not_false, true_and, and_true, not_true_eq_false, not_false_eq_true, decide_true, decide_false, Nat.reduceEqDiff, Nat.reduceAdd, Nat.reduceMul, Nat.reducePow, Int.reduceToNat, Int.reducePow, Nat.zero_add, Nat.mul_one, Int.toNat_natCast]; rfl
    · simp (maxSteps := 2000000) (disch := first | omega | assumption | (simp only [oneC_int, oneC_bool, oneC_str, oneC_ptr, oneC_sl, oneC_map]; done) | (simp only [List.length_cons, List.length_nil, List.length_set, List.length_map, List.length_replicate, List.length_append, List.length_take, List.length_drop, Int.toNat_natCast] <;> omega) | fail) only [Go.Rx.vi, Go.Rx.vb, Go.Rx.vstr, rxc, rxo, Nat.reduceLeDiff, List.getElem?_cons_zero, List.getElem?_cons_succ, List.length_cons, List.length_nil, List.set_cons_zero, List.set_cons_succ, ↓reduceIte, Bool.not_true, Bool.not_false, true_and, and_true, not_true_eq_false, not_false_eq_true, decide_true, decide_false, Nat.reduceEqDiff, Nat.reduceAdd, Nat.reduceMul, Nat.reducePow, Int.reduceToNat, Int.reducePow, Nat.zero_add, Nat.mul_one, Int.toNat_natCast]
    · show h.next ≤ h2.next
      omega
  · rintro m e h' ⟨i, w, ds, dss, rfl, hi, hdl, e1, e6, e5, hw, own, hl, g⟩
    have hlen := (RegL.iff.1 hl).1
    have r1 := own.sl.r
    have hh1 : 1 ≤ h'.next := Nat.le_trans h1 g.next
    simp (maxSteps := 2000000) (disch := first | omega | assumption | (simp only [oneC_int, oneC_bool, oneC_str, oneC_ptr, oneC_sl, oneC_map]; done) | (simp only [List.length_cons, List.length_nil, List.length_set, List.length_map, List.length_replicate, List.length_append, List.length_take, List.length_drop, Int.toNat_natCast] <;> omega) | fail) only [Go.Rx.vi, Go.Rx.vb, Go.Rx.vstr, rxc, rxo, Nat.reduceLeDiff, List.getElem?_cons_zero, List.getElem?_cons_succ, List.length_cons, List.length_nil, List.set_cons_zero, List.set_cons_succ, ↓reduceIte, Bool.not_true, Bool.not_false, true_and, and_true, not_true_eq_false, not_false_eq_true, decide_true, decide_false, Nat.reduceEqDiff, Nat.reduceAdd, Nat.reduceMul, Nat.reducePow, Int.reduceToNat, Int.reducePow, Nat.zero_add, Nat.mul_one, Int.toNat_natCast, B24_0, R24_3, e1, e5, e6, r1]
    refine WCond_dec (fun hc => ?_) (fun hc => ?_)
    · have hd0 : 0 < dss.length := by omega
      obtain ⟨ds', dss', p, c, rfl, rfl, hl', hp, hd1⟩ := hl.last hd0
      obtain ⟨p1, p2, p3, pv, pss, p4, p5, p6⟩ := hp.b
      have hget : (dss' ++ [c]).getD dss'.length [] = c := by simp
      simp only [List.length_append, List.length_cons, List.length_nil] at r1 hd0 hdl hlen
      have hsub : (((dss'.length + 1 : Nat) : Int) - 1) = (dss'.length : Int) := by omega
      simp (maxSteps := 2000000) (disch := first | omega | assumption | (simp only [oneC_int, oneC_bool, oneC_str, oneC_ptr, oneC_sl, oneC_map]; done) | (simp only [List.length_cons, List.length_nil, List.length_set, List.length_map, List.length_replicate, List.length_append, List.length_take, List.length_drop, Int.toNat_natCast] <;> omega) | fail) only [Go.Rx.vi, Go.Rx.vb, Go.Rx.vstr, rxc, rxo, Nat.reduceLeDiff, List.getElem?_cons_zero, List.getElem?_cons_succ, List.length_cons, List.length_nil, List.set_cons_zero, List.set_cons_succ, ↓reduceIte, Bool.not_true, Bool.not_false, true_and, and_true, not_true_eq_false, not_false_eq_true, decide_true, decide_false, Nat.reduceEqDiff, Nat.reduceAdd, Nat.reduceMul, Nat.reducePow, Int.reduceToNat, Int.reducePow, Nat.zero_add, Nat.mul_one, Int.toNat_natCast, R24_4, e1, e5, e6, r1, hsub, hget, p1, st6 p1 p2]
      obtain ⟨h4, e7, g4, n4, b4⟩ := boxed2 h' [.int .i64 0, .int .u64 0, .int .u64 0, .int .u64 0, .int .u64 0, .slice none 0 0] c 48
      rw [e7]
      have own4 := own.gp g4
      have p54 := p5.gp (g.trans g4)
      have r4 := own4.sl.r
      have r5 := p54.r
      simp only [List.length_append, List.length_cons, List.length_nil] at r4
      obtain ⟨w', c1, c2, c3⟩ := own4.cutTo (k := .i64) (n := dss'.length) (by omega) (by simp; omega)
      rw [Int.toNat_natCast, List.take_left' rfl] at c2
      simp (maxSteps := 2000000) (disch := first | omega | assumption | (simp only [oneC_int, oneC_bool, oneC_str, oneC_ptr, oneC_sl, oneC_map]; done) | (simp only [List.length_cons, List.length_nil, List.length_set, List.length_map, List.length_replicate, List.length_append, List.length_take, List.length_drop, Int.toNat_natCast] <;> omega) | fail) only [Go.Rx.vi, Go.Rx.vb, Go.Rx.vstr, rxc, rxo, Nat.reduceLeDiff, List.getElem?_cons_zero, List.getElem?_cons_succ, List.length_cons, List.length_nil, List.set_cons_zero, List.set_cons_succ, ↓reduceIte, Bool.not_true, Bool.not_false, true_and, and_true, not_true_eq_false, not_false_eq_true, decide_true, decide_false, Nat.reduceEqDiff, Nat.reduceAdd, Nat.reduceMul, Nat.reducePow, Int.reduceToNat, Int.reducePow, Nat.zero_add, Nat.mul_one, Int.toNat_natCast, R24_5, R24_6, e1, e5, e6, r4, hsub, c1]
      have done : ∀ (e : Env), WC M .ret e h4 (FunK [(4, none)] K) → True := fun _ _ => trivial
      by_cases hni : n ≤ (i : Int)
      · simp only [hni, decide_true, not_true_eq_false, decide_false, not_false_eq_true]
        simp (maxSteps := 2000000) (disch := first | omega | assumption | (simp only [oneC_int, oneC_bool, oneC_str, oneC_ptr, oneC_sl, oneC_map]; done) | (simp only [List.length_cons, List.length_nil, List.length_set, List.length_map, List.length_replicate, List.length_append, List.length_take, List.length_drop, Int.toNat_natCast] <;> omega) | fail) only [Go.Rx.vi, Go.Rx.vb, Go.Rx.vstr, rxc, rxo, Nat.reduceLeDiff, List.getElem?_cons_zero, List.getElem?_cons_succ, List.length_cons, List.length_nil, List.set_cons_zero, List.set_cons_succ, ↓reduceIte, Bool.not_true, Bool.not_false, true_and, and_true, not_true_eq_false, not_false_eq_true, decide_true, decide_false, Nat.reduceEqDiff, Nat.reduceAdd, Nat.reduceMul, Nat.reducePow, Int.reduceToNat, Int.reducePow, Nat.zero_add, Nat.mul_one, Int.toNat_natCast, R24_7]
        exact hk _ _ (g.trans g4)
      · simp only [hni, decide_true, not_true_eq_false, decide_false, not_false_eq_true]
        simp (maxSteps := 2000000) (disch := first | omega | assumption | (simp only [oneC_int, oneC_bool, oneC_str, oneC_ptr, oneC_sl, oneC_map]; done) | (simp only [List.length_cons, List.length_nil, List.length_set, List.length_map, List.length_replicate, List.length_append, List.length_take, List.length_drop, Int.toNat_natCast] <;> omega) | fail) only [Go.Rx.vi, Go.Rx.vb, Go.Rx.vstr, rxc, rxo, Nat.reduceLeDiff, List.getElem?_cons_zero, List.getElem?_cons_succ, List.length_cons, List.length_nil, List.set_cons_zero, List.set_cons_succ, ↓reduceIte, Bool.not_true, Bool.not_false, true_and, and_true, not_true_eq_false, not_false_eq_true, decide_true, decide_false, Nat.reduceEqDiff, Nat.reduceAdd, Nat.reduceMul, Nat.reducePow, Int.reduceToNat, Int.reducePow, Nat.zero_add, Nat.mul_one, Int.toNat_natCast, b4, p4, r5, e1]
        refine WCond_dec (fun hc2 => ?_) (fun hc2 => ?_)
        · simp (maxSteps := 2000000) (disch := first | omega | assumption | (simp only [oneC_int, oneC_bool, oneC_str, oneC_ptr, oneC_sl, oneC_map]; done) | (simp only [List.length_cons, List.length_nil, List.length_set, List.length_map, List.length_replicate, List.length_append, List.length_take, List.length_drop, Int.toNat_natCast] <;> omega) | fail) only [Go.Rx.vi, Go.Rx.vb, Go.Rx.vstr, rxc, rxo, Nat.reduceLeDiff, List.getElem?_cons_zero, List.getElem?_cons_succ, List.length_cons, List.length_nil, List.set_cons_zero, List.set_cons_succ, ↓reduceIte, Bool.not_true, Bool.not_false, true_and, and_true, not_true_eq_false, not_false_eq_true, decide_true, decide_false, Nat.reduceEqDiff, Nat.reduceAdd, Nat.reduceMul, Nat.reducePow, Int.reduceToNat, Int.reducePow, Nat.zero_add, Nat.mul_one, Int.toNat_natCast, R24_7]
          exact hk _ _ (g.trans g4)
        · simp (maxSteps := 2000000) (disch := first | omega | assumption | (simp only [oneC_int, oneC_bool, oneC_str, oneC_ptr, oneC_sl, oneC_map]; done) | (simp only [List.length_cons, List.length_nil, List.length_set, List.length_map, List.length_replicate, List.length_append, List.length_take, List.length_drop, Int.toNat_natCast] <;> omega) | fail) only [Go.Rx.vi, Go.Rx.vb, Go.Rx.vstr, rxc, rxo, Nat.reduceLeDiff, List.getElem?_cons_zero, List.getElem?_cons_succ, List.length_cons, List.length_nil, List.set_cons_zero, List.set_cons_succ, ↓reduceIte, Bool.not_true, Bool.not_false, true_and, and_true, not_true_eq_false, not_false_eq_true, decide_true, decide_false, Nat.reduceEqDiff, Nat.reduceAdd, Nat.reduceMul, Nat.reducePow, Int.reduceToNat, Int.reducePow, Nat.zero_add, Nat.mul_one, Int.toNat_natCast, R24_8]
          refine WC_bloop 9 (fun m e h' => ∃ (j : Nat) (w : Value) (ds : List RegD) (dss : List (List Value)), m = pss.length - j ∧ j ≤ pss.length ∧ ds.length ≤ 1003 ∧ e.g 1 = .int .i64 n ∧ e.g 6 = .int .i64 i ∧ e.g 7 = .pointer (some ⟨h4.next - 1, 0, none⟩) ∧ e.g 8 = .int .i64 j ∧ e.g 5 = w ∧ h.next ≤ bno w ∧ bno w ≠ h4.next - 1 ∧ OwnN 48 6 h' w dss ∧ RegL h ds dss ∧ GrowP h h' ∧ h4.next ≤ h'.next ∧ h'.at (h4.next - 1) = some (.cells c 48 true))
            (fun e h' => ∃ (w : Value) (ds : List RegD) (dss : List (List Value)), ds.length ≤ 1003 ∧ e.g 1 = .int .i64 n ∧ e.g 6 = .int .i64 i ∧ e.g 5 = w ∧ h.next ≤ bno w ∧ OwnN 48 6 h' w dss ∧ RegL h ds dss ∧ GrowP h h') ?_ ?_ ?_
          · have hb4 : h4.next - 1 = h'.next := by omega
            refine ⟨_, 0, w', ds', dss', rfl, by omega, by omega, ?_, ?_, ?_, ?_, ?_, by rw [c3]; exact hw, ?_, c2, hl', g.trans g4, Nat.le_refl _, by rw [hb4]; exact b4⟩
            · simp (maxSteps := 2000000) (disch := first | omega | assumption | (simp only [oneC_int, oneC_bool, oneC_str, oneC_ptr, oneC_sl, oneC_map]; done) | (simp only [List.length_cons, List.length_nil, List.length_set, List.length_map, List.length_replicate, List.length_append, List.length_take, List.length_drop, Int.toNat_natCast] <;> omega) | fail) only [Go.Rx.vi, Go.Rx.vb, Go.Rx.vstr, rxc, rxo, Nat.reduceLeDiff, List.getElem?_cons_zero, List.getElem?_cons_succ, List.length_cons, List.length_nil, List.set_cons_zero, List.set_cons_succ, ↓reduceIte, Bool.not_true, Bool.not_false, true_and, and_true, not_true_eq_false, not_false_eq_true, decide_true, decide_false, Nat.reduceEqDiff, Nat.reduceAdd, Nat.reduceMul, Nat.reducePow, Int.reduceToNat, Int.reducePow, Nat.zero_add, Nat.mul_one, Int.toNat_natCast, e1]
            · simp (maxSteps := 2000000) (disch := first | omega | assumption | (simp only [oneC_int, oneC_bool, oneC_str, oneC_ptr, oneC_sl, oneC_map]; done) | (simp only [List.length_cons, List.length_nil, List.length_set, List.length_map, List.length_replicate, List.length_append, List.length_take, List.length_drop, Int.toNat_natCast] <;> omega) | fail) only [Go.Rx.vi, Go.Rx.vb, Go.Rx.vstr, rxc, rxo, Nat.reduceLeDiff, List.getElem?_cons_zero, List.getElem?_cons_succ, List.length_cons, List.length_nil, List.set_cons_zero, List.set_cons_succ, ↓reduceIte, Bool.not_true, Bool.not_false, true_and, and_true, not_true_eq_false, not_false_eq_true, decide_true, decide_false, Nat.reduceEqDiff, Nat.reduceAdd, Nat.reduceMul, Nat.reducePow, Int.reduceToNat, Int.reducePow, Nat.zero_add, Nat.mul_one, Int.toNat_natCast, e6]
            · simp (maxSteps := 2000000) (disch := first | omega | assumption | (simp only [oneC_int, oneC_bool, oneC_str, oneC_ptr, oneC_sl, oneC_map]; done) | (simp only [List.length_cons, List.length_nil, List.length_set, List.length_map, List.length_replicate, List.length_append, List.length_take, List.length_drop, Int.toNat_natCast] <;> omega) | fail) only [Go.Rx.vi, Go.Rx.vb, Go.Rx.vstr, rxc, rxo, Nat.reduceLeDiff, List.getElem?_cons_zero, List.getElem?_cons_succ, List.length_cons, List.length_nil, List.set_cons_zero, List.set_cons_succ, ↓reduceIte, Bool.not_true, Bool.not_false, true_and, and_true, not_true_eq_false, not_false_eq_true, decide_true, decide_false, Nat.reduceEqDiff, Nat.reduceAdd, Nat.reduceMul, Nat.reducePow, Int.reduceToNat, Int.reducePow, Nat.zero_add, Nat.mul_one, Int.toNat_natCast]; rw [hb4]
            · simp (maxSteps := 2000000) (disch := first | omega | assumption | (simp only [oneC_int, oneC_bool, oneC_str, oneC_ptr, oneC_sl, oneC_map]; done) | (simp only [List.length_cons, List.length_nil, List.length_set, List.length_map, List.length_replicate, List.length_append, List.length_take, List.length_drop, Int.toNat_natCast] <;> omega) | fail) only [Go.Rx.vi, Go.Rx.vb, Go.Rx.vstr, rxc, rxo, Nat.reduceLeDiff, List.getElem?_cons_zero, List.getElem?_cons_succ, List.length_cons, List.length_nil, List.set_cons_zero, List.set_cons_succ, ↓reduceIte, Bool.not_true, Bool.not_false, true_and, and_true, not_true_eq_false, not_false_eq_true, decide_true, decide_false, Nat.reduceEqDiff, Nat.reduceAdd, Nat.reduceMul, Nat.reducePow, Int.reduceToNat, Int.reducePow, Nat.zero_add, Nat.mul_one, Int.toNat_natCast]; rfl
            · simp (maxSteps := 2000000) (disch := first | omega | assumption | (simp only [oneC_int, oneC_bool, oneC_str, oneC_ptr, oneC_sl, oneC_map]; done) | (simp only [List.length_cons, List.length_nil, List.length_set, List.length_map, List.length_replicate, List.length_append, List.length_take, List.length_drop, Int.toNat_natCast] <;> omega) | fail) only [Go.Rx.vi, Go.Rx.vb, Go.Rx.vstr, rxc, rxo, Nat.reduceLeDiff, List.getElem?_cons_zero, List.getElem?_cons_succ, List.length_cons, List.length_nil, List.set_cons_zero, List.set_cons_succ, ↓reduceIte, Bool.not_true, Bool.not_false, true_and, and_true, not_true_eq_false, not_false_eq_true, decide_true, decide_false, Nat.reduceEqDiff, Nat.reduceAdd, Nat.reduceMul, Nat.reducePow, Int.reduceToNat, Int.reducePow, Nat.zero_add, Nat.mul_one, Int.toNat_natCast]
            · have := own.1; rw [c3]; omega
          · rintro m e h6 ⟨j, w, ds, dss, rfl, hj, hdl, e1, e6, e7, e8, e5, hw, hwn, own, hl, g, hn6, b6⟩
            have hlen := (RegL.iff.1 hl).1
            have r1 := own.sl.r
            have r6 := (p5.gp g).r
            simp (maxSteps := 2000000) (disch := first | omega | assumption | (simp only [oneC_int, oneC_bool, oneC_str, oneC_ptr, oneC_sl, oneC_map]; done) | (simp only [List.length_cons, List.length_nil, List.length_set, List.length_map, List.length_replicate, List.length_append, List.length_take, List.length_drop, Int.toNat_natCast] <;> omega) | fail) only [Go.Rx.vi, Go.Rx.vb, Go.Rx.vstr, rxc, rxo, Nat.reduceLeDiff, List.getElem?_cons_zero, List.getElem?_cons_succ, List.length_cons, List.length_nil, List.set_cons_zero, List.set_cons_succ, ↓reduceIte, Bool.not_true, Bool.not_false, true_and, and_true, not_true_eq_false, not_false_eq_true, decide_true, decide_false, Nat.reduceEqDiff, Nat.reduceAdd, Nat.reduceMul, Nat.reducePow, Int.reduceToNat, Int.reducePow, Nat.zero_add, Nat.mul_one, Int.toNat_natCast, B24_1, R24_9, e1, e5, e6, e7, e8, r1, b6, p4, r6]
            by_cases hjl : (j : Int) < pss.length
            · simp only [hjl, decide_true]
              simp (maxSteps := 2000000) (disch := first | omega | assumption | (simp only [oneC_int, oneC_bool, oneC_str, oneC_ptr, oneC_sl, oneC_map]; done) | (simp only [List.length_cons, List.length_nil, List.length_set, List.length_map, List.length_replicate, List.length_append, List.length_take, List.length_drop, Int.toNat_natCast] <;> omega) | fail) only [Go.Rx.vi, Go.Rx.vb, Go.Rx.vstr, rxc, rxo, Nat.reduceLeDiff, List.getElem?_cons_zero, List.getElem?_cons_succ, List.length_cons, List.length_nil, List.set_cons_zero, List.set_cons_succ, ↓reduceIte, Bool.not_true, Bool.not_false, true_and, and_true, not_true_eq_false, not_false_eq_true, decide_true, decide_false, Nat.reduceEqDiff, Nat.reduceAdd, Nat.reduceMul, Nat.reducePow, Int.reduceToNat, Int.reducePow, Nat.zero_add, Nat.mul_one, Int.toNat_natCast, e1, e5, r1]
              refine WCond_dec (fun hc3 => ?_) (fun hc3 => ?_)
              · obtain ⟨q, hq, hqc⟩ := p6.get (i := j) (by omega)
                obtain ⟨o1, o2, o3, ov, oss, o4, o5, o6⟩ := hqc.b
                simp (maxSteps := 2000000) (disch := first | omega | assumption | (simp only [oneC_int, oneC_bool, oneC_str, oneC_ptr, oneC_sl, oneC_map]; done) | (simp only [List.length_cons, List.length_nil, List.length_set, List.length_map, List.length_replicate, List.length_append, List.length_take, List.length_drop, Int.toNat_natCast] <;> omega) | fail) only [Go.Rx.vi, Go.Rx.vb, Go.Rx.vstr, rxc, rxo, Nat.reduceLeDiff, List.getElem?_cons_zero, List.getElem?_cons_succ, List.length_cons, List.length_nil, List.set_cons_zero, List.set_cons_succ, ↓reduceIte, Bool.not_true, Bool.not_false, true_and, and_true, not_true_eq_false, not_false_eq_true, decide_true, decide_false, Nat.reduceEqDiff, Nat.reduceAdd, Nat.reduceMul, Nat.reducePow, Int.reduceToNat, Int.reducePow, Nat.zero_add, Nat.mul_one, Int.toNat_natCast, R24_10, e1, e5, e6, e7, e8, b6, p4, r6, o1, cut_all o1, fill6 o1]
                refine WI_appn1 (by omega) (by omega) own o1 hqc.len.2 (by omega) ?_
                intro w2 h7 own2 g7 b7
                simp (maxSteps := 2000000) (disch := first | omega | assumption | (simp only [oneC_int, oneC_bool, oneC_str, oneC_ptr, oneC_sl, oneC_map]; done) | (simp only [List.length_cons, List.length_nil, List.length_set, List.length_map, List.length_replicate, List.length_append, List.length_take, List.length_drop, Int.toNat_natCast] <;> omega) | fail) only [Go.Rx.vi, Go.Rx.vb, Go.Rx.vstr, rxc, rxo, Nat.reduceLeDiff, List.getElem?_cons_zero, List.getElem?_cons_succ, List.length_cons, List.length_nil, List.set_cons_zero, List.set_cons_succ, ↓reduceIte, Bool.not_true, Bool.not_false, true_and, and_true, not_true_eq_false, not_false_eq_true, decide_true, decide_false, Nat.reduceEqDiff, Nat.reduceAdd, Nat.reduceMul, Nat.reducePow, Int.reduceToNat, Int.reducePow, Nat.zero_add, Nat.mul_one, Int.toNat_natCast, e1, e5, e6, e7, e8, R24_11]
                refine ⟨_, ?_, j + 1, w2, ds ++ [q], dss ++ [pss.getD j []], rfl, by omega, by simp; omega, ?_, rfl, ?_, ?_, own2, hl.app (.one hqc), g.chg g7 (by right; omega), ?_, ?_⟩
                · omega
                · simp
                · have := g.next; omega
                · omega
                · have := g7.next; omega
                · rw [g7.at_ _ (by omega) (by omega)]; exact b6
              · simp (maxSteps := 2000000) (disch := first | omega | assumption | (simp only [oneC_int, oneC_bool, oneC_str, oneC_ptr, oneC_sl, oneC_map]; done) | (simp only [List.length_cons, List.length_nil, List.length_set, List.length_map, List.length_replicate, List.length_append, List.length_take, List.length_drop, Int.toNat_natCast] <;> omega) | fail) only [Go.Rx.vi, Go.Rx.vb, Go.Rx.vstr, rxc, rxo, Nat.reduceLeDiff, List.getElem?_cons_zero, List.getElem?_cons_succ, List.length_cons, List.length_nil, List.set_cons_zero, List.set_cons_succ, ↓reduceIte, Bool.not_true, Bool.not_false, true_and, and_true, not_true_eq_false, not_false_eq_true, decide_true, decide_false, Nat.reduceEqDiff, Nat.reduceAdd, Nat.reduceMul, Nat.reducePow, Int.reduceToNat, Int.reducePow, Nat.zero_add, Nat.mul_one, Int.toNat_natCast]
                exact ⟨w, ds, dss, hdl, e1, e6, e5, hw, own, hl, g⟩
            · simp only [hjl, decide_false]
              simp (maxSteps := 2000000) (disch := first | omega | assumption | (simp only [oneC_int, oneC_bool, oneC_str, oneC_ptr, oneC_sl, oneC_map]; done) | (simp only [List.length_cons, List.length_nil, List.length_set, List.length_map, List.length_replicate, List.length_append, List.length_take, List.length_drop, Int.toNat_natCast] <;> omega) | fail) only [Go.Rx.vi, Go.Rx.vb, Go.Rx.vstr, rxc, rxo, Nat.reduceLeDiff, List.getElem?_cons_zero, List.getElem?_cons_succ, List.length_cons, List.length_nil, List.set_cons_zero, List.set_cons_succ, ↓reduceIte, Bool.not_true, Bool.not_false, true_and, and_true, not_true_eq_false, not_false_eq_true, decide_true, decide_false, Nat.reduceEqDiff, Nat.reduceAdd, Nat.reduceMul, Nat.reducePow, Int.reduceToNat, Int.reducePow, Nat.zero_add, Nat.mul_one, Int.toNat_natCast]
              exact ⟨w, ds, dss, hdl, e1, e6, e5, hw, own, hl, g⟩
          · rintro e h' ⟨w, ds, dss, hdl, e1, e6, e5, hw, own, hl, g⟩
            simp (maxSteps := 2000000) (disch := first | omega | assumption | (simp only [oneC_int, oneC_bool, oneC_str, oneC_ptr, oneC_sl, oneC_map]; done) | (simp only [List.length_cons, List.length_nil, List.length_set, List.length_map, List.length_replicate, List.length_append, List.length_take, List.length_drop, Int.toNat_natCast] <;> omega) | fail) only [Go.Rx.vi, Go.Rx.vb, Go.Rx.vstr, rxc, rxo, Nat.reduceLeDiff, List.getElem?_cons_zero, List.getElem?_cons_succ, List.length_cons, List.length_nil, List.set_cons_zero, List.set_cons_succ, ↓reduceIte, Bool.not_true, Bool.not_false, true_and, and_true, not_true_eq_false, not_false_eq_true, decide_true, decide_false, Nat.reduceEqDiff, Nat.reduceAdd, Nat.reduceMul, Nat.reducePow, Int.reduceToNat, Int.reducePow, Nat.zero_add, Nat.mul_one, Int.toNat_natCast, R24_12, e1, e6]
            refine ⟨_, ?_, i + 1, w, ds, dss, rfl, by omega, hdl, ?_, e5, hw, own, hl, g⟩
            · omega
            · simp
    · simp (maxSteps := 2000000) (disch := first | omega | assumption | (simp only [oneC_int, oneC_bool, oneC_str, oneC_ptr, oneC_sl, oneC_map]; done) | (simp only [List.length_cons, List.length_nil, List.length_set, List.length_map, List.length_replicate, List.length_append, List.length_take, List.length_drop, Int.toNat_natCast] <;> omega) | fail) only [Go.Rx.vi, Go.Rx.vb, Go.Rx.vstr, rxc, rxo, Nat.reduceLeDiff, List.getElem?_cons_zero, List.getElem?_cons_succ, List.length_cons, List.length_nil, List.set_cons_zero, List.set_cons_succ, ↓reduceIte, Bool.not_true, Bool.not_false, true_and, and_true, not_true_eq_false, not_false_eq_true, decide_true, decide_false, Nat.reduceEqDiff, Nat.reduceAdd, Nat.reduceMul, Nat.reducePow, Int.reduceToNat, Int.reducePow, Nat.zero_add, Nat.mul_one, Int.toNat_natCast]
      exact g
  · rintro e h' g
    simp (maxSteps := 2000000) (disch := first | omega | assumption | (simp only [oneC_int, oneC_bool, oneC_str, oneC_ptr, oneC_sl, oneC_map]; done) | (simp only [List.length_cons, List.length_nil, List.length_set, List.length_map, List.length_replicate, List.length_append, List.length_take, List.length_drop, Int.toNat_natCast] <;> omega) | fail) only [Go.Rx.vi, Go.Rx.vb, Go.Rx.vstr, rxc, rxo, Nat.reduceLeDiff, List.getElem?_cons_zero, List.getElem?_cons_succ, List.length_cons, List.length_nil, List.set_cons_zero, List.set_cons_succ, ↓reduceIte, Bool.not_true, Bool.not_false, true_and, and_true, not_true_eq_false, not_false_eq_true, decide_true, decide_false, Nat.reduceEqDiff, Nat.reduceAdd, Nat.reduceMul, Nat.reducePow, Int.reduceToNat, Int.reducePow, Nat.zero_add, Nat.mul_one, Int.toNat_natCast, R24_13]
    exact hk _ _ g
end Go.Rx
