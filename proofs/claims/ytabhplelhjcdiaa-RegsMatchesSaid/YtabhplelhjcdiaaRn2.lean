/- Contracts of functions of the given program, over the abstract machine. -/
import Derived.Test.YtabhplelhjcdiaaRn1
namespace Go.Rx
variable {M : Mach}
set_option maxRecDepth 4000
set_option linter.unusedSimpArgs false
set_option linter.unusedVariables false

/-- What comes of places by a relation, as truth values. -/
def BImg (n : Nat) (R : Nat → Nat → Prop) (l l' : List Bool) : Prop := l'.length = n + 1 ∧ ∀ j, j ≤ n → (l'.getD j false = true ↔ ∃ i, l.getD i false = true ∧ R i j)
/-- The contract of the document's Ends, of one pattern. -/
def REndsC (M : Mach) (t : List UInt8) (r : RegD) : Prop := ∀ {cs : List Value} {v : Value} {l : List Bool} {h : Heap} {K : KF}, 1 ≤ h.next → RegC h r cs → BV h v l → l.length = t.length + 1 →
  (∀ v' l' h', BV h' v' l' → BImg t.length (Mt t r) l l' → GrowP h h' → K v' h') → WF M 56 [.agg ⟨cs⟩, vstr t, v] h K

def nf : List Bool → Nat
  | [] => 0
  | x :: l => (if x then 0 else 1) + nf l
theorem nf_le : ∀ (a b : List Bool), a.length = b.length → (∀ i : Nat, a.getD i false = true → b.getD i false = true) → nf b ≤ nf a
  | [], [], _, _ => Nat.le_refl _
  | x :: a, y :: b, hl, h => by
    have h0 := h 0
    have := nf_le a b (by simpa using hl) (fun i hi => by simpa using h (i + 1) (by simpa using hi))
    simp only [List.getD_cons_zero] at h0
    rw [nf, nf]
    cases x <;> cases y <;> simp_all
    omega
  | [], _ :: _, hl, _ => by simp at hl
  | _ :: _, [], hl, _ => by simp at hl
theorem nf_lt : ∀ (a b : List Bool), a.length = b.length → (∀ i : Nat, a.getD i false = true → b.getD i false = true) → a ≠ b → nf b < nf a
  | [], [], _, _, hne => absurd rfl hne
  | x :: a, y :: b, hl, h, hne => by
    have h0 := h 0
    have hle := nf_le a b (by simpa using hl) (fun i hi => by simpa using h (i + 1) (by simpa using hi))
    simp only [List.getD_cons_zero] at h0
    rw [nf, nf]
    by_cases hxy : x = y
    · subst hxy
      have := nf_lt a b (by simpa using hl) (fun i hi => by simpa using h (i + 1) (by simpa using hi)) (fun e => hne (by rw [e]))
      omega
    · cases x <;> cases y <;> simp_all
      omega
  | [], _ :: _, hl, _, _ => by simp at hl
  | _ :: _, [], hl, _, _ => by simp at hl

theorem ragain_ok (hm : M.Mono) (hO80 : M.O 80 = none) (hF80 : M.F 80 = some A80) (hO79 : M.O 79 = none) (hF79 : M.F 79 = some A79)
  {t : List UInt8} (ht : t.length ≤ 100000) {r : RegD} (hE : REndsC M t r) {cs : List Value} {v : Value} {l : List Bool} {h : Heap} {K : KF} (h1 : 1 ≤ h.next) (hr : RegC h r cs) (hv : BV h v l) (hl : l.length = t.length + 1)
  (hk : ∀ v' l' h', BV h' v' l' → BImg t.length (Star (Mt t r)) l l' → GrowP h h' → K v' h') : WF M 80 [.agg ⟨cs⟩, vstr t, v] h K := by
  rw [WF_eqT 11 hO80 hF80]
  obtain ⟨q1, q2, q3, pv, pss, q4, q5, q6⟩ := hr.b
  simp (maxSteps := 2000000) (disch := first | omega | assumption | (simp only [zA]; done) | (simp only [zB] <;> omega) | fail) only [Go.Rx.vi, Go.Rx.vb, Go.Rx.vstr, rxc, rxo, zC, Nat.reduceLeDiff, ↓reduceIte, Nat.reduceEqDiff, Nat.reduceAdd, Nat.reduceMul, Nat.reducePow, Int.reduceToNat, Int.reducePow, A80, R80_0, q1]
  obtain ⟨h2, e2, g2, n2, b2⟩ := boxed h cs 48
  rw [e2]
  simp (maxSteps := 2000000) (disch := first | omega | assumption | (simp only [zA]; done) | (simp only [zB] <;> omega) | fail) only [Go.Rx.vi, Go.Rx.vb, Go.Rx.vstr, rxc, rxo, zC, Nat.reduceLeDiff, ↓reduceIte, Nat.reduceEqDiff, Nat.reduceAdd, Nat.reduceMul, Nat.reducePow, Int.reduceToNat, Int.reducePow, R80_1]
  refine WC_bloop 11 (fun mm e h' => ∃ (vo : Value) (o : List Bool), mm = nf o ∧ e.g 1 = vstr t ∧ e.g 3 = .pointer (some ⟨h.next, 0, none⟩) ∧ e.g 7 = vo ∧ BV h' vo o ∧ o.length = t.length + 1 ∧ (∀ j : Nat, l.getD j false = true → o.getD j false = true) ∧ (∀ j : Nat, o.getD j false = true → ∃ i : Nat, l.getD i false = true ∧ Star (Mt t r) i j) ∧ GrowP h2 h')
    (fun e h' => False) ?_ ?_ ?_
  · refine ⟨_, v, l, rfl, ?_, ?_, ?_, hv.gp g2, hl, fun j hj => hj, fun j hj => ⟨j, hj, .refl _⟩, .refl _⟩
    · simp (maxSteps := 2000000) (disch := first | omega | assumption | (simp only [zA]; done) | (simp only [zB] <;> omega) | fail) only [Go.Rx.vi, Go.Rx.vb, Go.Rx.vstr, rxc, rxo, zC, Nat.reduceLeDiff, ↓reduceIte, Nat.reduceEqDiff, Nat.reduceAdd, Nat.reduceMul, Nat.reducePow, Int.reduceToNat, Int.reducePow]
    · simp (maxSteps := 2000000) (disch := first | omega | assumption | (simp only [zA]; done) | (simp only [zB] <;> omega) | fail) only [Go.Rx.vi, Go.Rx.vb, Go.Rx.vstr, rxc, rxo, zC, Nat.reduceLeDiff, ↓reduceIte, Nat.reduceEqDiff, Nat.reduceAdd, Nat.reduceMul, Nat.reducePow, Int.reduceToNat, Int.reducePow]
    · simp (maxSteps := 2000000) (disch := first | omega | assumption | (simp only [zA]; done) | (simp only [zB] <;> omega) | fail) only [Go.Rx.vi, Go.Rx.vb, Go.Rx.vstr, rxc, rxo, zC, Nat.reduceLeDiff, ↓reduceIte, Nat.reduceEqDiff, Nat.reduceAdd, Nat.reduceMul, Nat.reducePow, Int.reduceToNat, Int.reducePow]
  · rintro mm e h' ⟨vo, o, rfl, e1, e3, e7, ov, ol, i1, i2, g⟩
    have b3 : h'.at h.next = _ := (g.at_ _ h1 (by omega)).trans b2
    have gn := g.next
    simp (maxSteps := 2000000) (disch := first | omega | assumption | (simp only [zA]; done) | (simp only [zB] <;> omega) | fail) only [Go.Rx.vi, Go.Rx.vb, Go.Rx.vstr, rxc, rxo, zC, Nat.reduceLeDiff, ↓reduceIte, Nat.reduceEqDiff, Nat.reduceAdd, Nat.reduceMul, Nat.reducePow, Int.reduceToNat, Int.reducePow, B80_0, R80_2, e1, e3, e7, b3, q1, cut_all q1]
    refine hE (by omega) ((hr.gp g2).gp g) ov ol ?_
    intro vx xl h4 xv ix g4
    have n4 := g4.next
    simp (maxSteps := 2000000) (disch := first | omega | assumption | (simp only [zA]; done) | (simp only [zB] <;> omega) | fail) only [Go.Rx.vi, Go.Rx.vb, Go.Rx.vstr, rxc, rxo, zC, Nat.reduceLeDiff, ↓reduceIte, Nat.reduceEqDiff, Nat.reduceAdd, Nat.reduceMul, Nat.reducePow, Int.reduceToNat, Int.reducePow, e7]
    refine either_ok hO79 hF79 (by omega) (ov.gp g4) xv (by rw [ol, ix.1]) (by omega) ?_
    intro vn h5 nv g5
    have n5 := g5.next
    generalize hnl : List.zipWith (· || ·) o xl = nl at nv
    have hnlen : nl.length = t.length + 1 := by rw [← hnl, List.length_zipWith, ol, ix.1]; omega
    have hnm : ∀ j : Nat, nl.getD j false = (o.getD j false || xl.getD j false) := fun j => by rw [← hnl, getD_or (by rw [ol, ix.1])]
    have ov5 := (ov.gp g4).gp g5
    have r5 := ov5.r
    have r6 := nv.r
    have gg := (g.trans g4).trans g5
    simp (maxSteps := 2000000) (disch := first | omega | assumption | (simp only [zA]; done) | (simp only [zB] <;> omega) | fail) only [Go.Rx.vi, Go.Rx.vb, Go.Rx.vstr, rxc, rxo, zC, Nat.reduceLeDiff, ↓reduceIte, Nat.reduceEqDiff, Nat.reduceAdd, Nat.reduceMul, Nat.reducePow, Int.reduceToNat, Int.reducePow, R80_3, R80_4]
    refine WC_bloop 11 (fun mm e h' => ∃ (i : Nat), mm = o.length - i ∧ i ≤ o.length ∧ e.g 1 = vstr t ∧ e.g 3 = .pointer (some ⟨h.next, 0, none⟩) ∧ e.g 7 = vo ∧ e.g 8 = vn ∧ e.g 10 = .int .i64 i ∧ e.g 9 = .bool (decide (∀ j, j < i → o.getD j false = nl.getD j false)) ∧ h' = h5)
      (fun e h' => e.g 1 = vstr t ∧ e.g 3 = .pointer (some ⟨h.next, 0, none⟩) ∧ e.g 7 = vo ∧ e.g 8 = vn ∧ e.g 9 = .bool (decide (o = nl)) ∧ h' = h5) ?_ ?_ ?_
    · refine ⟨_, 0, rfl, by omega, ?_, ?_, ?_, ?_, ?_, ?_, rfl⟩
      · simp (maxSteps := 2000000) (disch := first | omega | assumption | (simp only [zA]; done) | (simp only [zB] <;> omega) | fail) only [Go.Rx.vi, Go.Rx.vb, Go.Rx.vstr, rxc, rxo, zC, Nat.reduceLeDiff, ↓reduceIte, Nat.reduceEqDiff, Nat.reduceAdd, Nat.reduceMul, Nat.reducePow, Int.reduceToNat, Int.reducePow, e1]
      · simp (maxSteps := 2000000) (disch := first | omega | assumption | (simp only [zA]; done) | (simp only [zB] <;> omega) | fail) only [Go.Rx.vi, Go.Rx.vb, Go.Rx.vstr, rxc, rxo, zC, Nat.reduceLeDiff, ↓reduceIte, Nat.reduceEqDiff, Nat.reduceAdd, Nat.reduceMul, Nat.reducePow, Int.reduceToNat, Int.reducePow, e3]
      · simp (maxSteps := 2000000) (disch := first | omega | assumption | (simp only [zA]; done) | (simp only [zB] <;> omega) | fail) only [Go.Rx.vi, Go.Rx.vb, Go.Rx.vstr, rxc, rxo, zC, Nat.reduceLeDiff, ↓reduceIte, Nat.reduceEqDiff, Nat.reduceAdd, Nat.reduceMul, Nat.reducePow, Int.reduceToNat, Int.reducePow, e7]
      · simp (maxSteps := 2000000) (disch := first | omega | assumption | (simp only [zA]; done) | (simp only [zB] <;> omega) | fail) only [Go.Rx.vi, Go.Rx.vb, Go.Rx.vstr, rxc, rxo, zC, Nat.reduceLeDiff, ↓reduceIte, Nat.reduceEqDiff, Nat.reduceAdd, Nat.reduceMul, Nat.reducePow, Int.reduceToNat, Int.reducePow]
      · simp (maxSteps := 2000000) (disch := first | omega | assumption | (simp only [zA]; done) | (simp only [zB] <;> omega) | fail) only [Go.Rx.vi, Go.Rx.vb, Go.Rx.vstr, rxc, rxo, zC, Nat.reduceLeDiff, ↓reduceIte, Nat.reduceEqDiff, Nat.reduceAdd, Nat.reduceMul, Nat.reducePow, Int.reduceToNat, Int.reducePow] <;> rfl
      · simp (maxSteps := 2000000) (disch := first | omega | assumption | (simp only [zA]; done) | (simp only [zB] <;> omega) | fail) only [Go.Rx.vi, Go.Rx.vb, Go.Rx.vstr, rxc, rxo, zC, Nat.reduceLeDiff, ↓reduceIte, Nat.reduceEqDiff, Nat.reduceAdd, Nat.reduceMul, Nat.reducePow, Int.reduceToNat, Int.reducePow]
        try rw [decide_eq_true (fun j hj => by omega)]
    · rintro mm e h'' ⟨i, rfl, hi, e1, e3, e7, e8, e10, e9, rfl⟩
      simp (maxSteps := 2000000) (disch := first | omega | assumption | (simp only [zA]; done) | (simp only [zB] <;> omega) | fail) only [Go.Rx.vi, Go.Rx.vb, Go.Rx.vstr, rxc, rxo, zC, Nat.reduceLeDiff, ↓reduceIte, Nat.reduceEqDiff, Nat.reduceAdd, Nat.reduceMul, Nat.reducePow, Int.reduceToNat, Int.reducePow, B80_1, R80_5, e7, e10, r5]
      refine WCond_dec (fun hc => ?_) (fun hc => ?_)
      · simp (maxSteps := 2000000) (disch := first | omega | assumption | (simp only [zA]; done) | (simp only [zB] <;> omega) | fail) only [Go.Rx.vi, Go.Rx.vb, Go.Rx.vstr, rxc, rxo, zC, Nat.reduceLeDiff, ↓reduceIte, Nat.reduceEqDiff, Nat.reduceAdd, Nat.reduceMul, Nat.reducePow, Int.reduceToNat, Int.reducePow]
        refine WC_regd0 hm ?_
        have hib : i < nl.length := by omega
        have heq : iEqc 0 false (.bool (o.getD i false)) (.bool (nl.getD i false)) h'' = some (.bool (decide (o.getD i false = nl.getD i false)), h'') := by
          cases o.getD i false <;> cases nl.getD i false <;> rfl
        have hd : decide (∀ j, j < i + 1 → o.getD j false = nl.getD j false) = (decide (∀ j, j < i → o.getD j false = nl.getD j false) && decide (o.getD i false = nl.getD i false)) := by
          rw [← Bool.decide_and]
          refine decide_eq_decide.2 ⟨fun h => ⟨fun j hj => h j (by omega), h i (by omega)⟩, fun h j hj => ?_⟩
          by_cases hj2 : j = i
          · rw [hj2]; exact h.2
          · exact h.1 j (by omega)
        by_cases hall : ∀ j, j < i → o.getD j false = nl.getD j false
        · rw [decide_eq_true hall] at e9 hd
          simp (maxSteps := 2000000) (disch := first | omega | assumption | (simp only [zA]; done) | (simp only [zB] <;> omega) | fail) only [Go.Rx.vi, Go.Rx.vb, Go.Rx.vstr, rxc, rxo, zC, Nat.reduceLeDiff, ↓reduceIte, Nat.reduceEqDiff, Nat.reduceAdd, Nat.reduceMul, Nat.reducePow, Int.reduceToNat, Int.reducePow, R80_6, e1, e3, e7, e8, e9, e10, r5, r6, heq]
          simp (maxSteps := 2000000) (disch := first | omega | assumption | (simp only [zA]; done) | (simp only [zB] <;> omega) | fail) only [Go.Rx.vi, Go.Rx.vb, Go.Rx.vstr, rxc, rxo, zC, Nat.reduceLeDiff, ↓reduceIte, Nat.reduceEqDiff, Nat.reduceAdd, Nat.reduceMul, Nat.reducePow, Int.reduceToNat, Int.reducePow, R80_7, e1, e3, e7, e8, e10]
          refine ⟨_, ?_, i + 1, rfl, by omega, ?_, ?_⟩
          · omega
          · simp
          · rw [hd, Bool.true_and]
        · rw [decide_eq_false hall] at e9 hd
          simp (maxSteps := 2000000) (disch := first | omega | assumption | (simp only [zA]; done) | (simp only [zB] <;> omega) | fail) only [Go.Rx.vi, Go.Rx.vb, Go.Rx.vstr, rxc, rxo, zC, Nat.reduceLeDiff, ↓reduceIte, Nat.reduceEqDiff, Nat.reduceAdd, Nat.reduceMul, Nat.reducePow, Int.reduceToNat, Int.reducePow, R80_6, e1, e3, e7, e8, e9, e10]
          simp (maxSteps := 2000000) (disch := first | omega | assumption | (simp only [zA]; done) | (simp only [zB] <;> omega) | fail) only [Go.Rx.vi, Go.Rx.vb, Go.Rx.vstr, rxc, rxo, zC, Nat.reduceLeDiff, ↓reduceIte, Nat.reduceEqDiff, Nat.reduceAdd, Nat.reduceMul, Nat.reducePow, Int.reduceToNat, Int.reducePow, R80_7, e1, e3, e7, e8, e10]
          refine ⟨_, ?_, i + 1, rfl, by omega, ?_, ?_⟩
          · omega
          · simp
          · rw [hd, Bool.false_and]
      · simp (maxSteps := 2000000) (disch := first | omega | assumption | (simp only [zA]; done) | (simp only [zB] <;> omega) | fail) only [Go.Rx.vi, Go.Rx.vb, Go.Rx.vstr, rxc, rxo, zC, Nat.reduceLeDiff, ↓reduceIte, Nat.reduceEqDiff, Nat.reduceAdd, Nat.reduceMul, Nat.reducePow, Int.reduceToNat, Int.reducePow, e1, e3, e7, e8, e9]
        congr 1
        refine decide_eq_decide.2 ⟨fun h => ext_getD false (by omega) fun j hj => h j (by omega), fun h j _ => by rw [h]⟩
    · rintro e h'' ⟨e1, e3, e7, e8, e9, rfl⟩
      simp (maxSteps := 2000000) (disch := first | omega | assumption | (simp only [zA]; done) | (simp only [zB] <;> omega) | fail) only [Go.Rx.vi, Go.Rx.vb, Go.Rx.vstr, rxc, rxo, zC, Nat.reduceLeDiff, ↓reduceIte, Nat.reduceEqDiff, Nat.reduceAdd, Nat.reduceMul, Nat.reducePow, Int.reduceToNat, Int.reducePow, R80_8, e9]
      refine WCond_dec (fun hc => ?_) (fun hc => ?_)
      · simp (maxSteps := 2000000) (disch := first | omega | assumption | (simp only [zA]; done) | (simp only [zB] <;> omega) | fail) only [Go.Rx.vi, Go.Rx.vb, Go.Rx.vstr, rxc, rxo, zC, Nat.reduceLeDiff, ↓reduceIte, Nat.reduceEqDiff, Nat.reduceAdd, Nat.reduceMul, Nat.reducePow, Int.reduceToNat, Int.reducePow, R80_9, e7]
        refine hk _ _ _ ov5 ⟨ol, fun j hj => ⟨i2 j, ?_⟩⟩ (g2.trans gg)
        rintro ⟨i, hi, hs⟩
        have cl : ∀ i j : Nat, o.getD i false = true → Mt t r i j → j ≤ t.length → o.getD j false = true := by
          intro i j hi hmt hj
          rw [hc, hnm j, (ix.2 j hj).2 ⟨i, hi, hmt⟩, Bool.or_true]
        have : ∀ {i j : Nat}, Star (Mt t r) i j → j ≤ t.length → o.getD i false = true → o.getD j false = true := by
          intro i j hs
          induction hs with
          | refl _ => intro _ h; exact h
          | step hh hs' ih => intro hj ha; exact ih hj (cl _ _ ha hh (Nat.le_trans (Star.le (fun a b => Mt_le r a b) hs') hj))
        exact this hs hj (i1 _ hi)
      · simp (maxSteps := 2000000) (disch := first | omega | assumption | (simp only [zA]; done) | (simp only [zB] <;> omega) | fail) only [Go.Rx.vi, Go.Rx.vb, Go.Rx.vstr, rxc, rxo, zC, Nat.reduceLeDiff, ↓reduceIte, Nat.reduceEqDiff, Nat.reduceAdd, Nat.reduceMul, Nat.reducePow, Int.reduceToNat, Int.reducePow, R80_10, e1, e3, e8]
        refine ⟨_, ?_, vn, nl, rfl, rfl, nv, hnlen, ?_, ?_, gg⟩
        · exact nf_lt o nl (by omega) (fun i hi => by rw [hnm, hi, Bool.true_or]) hc
        · intro j hj; rw [hnm, i1 j hj, Bool.true_or]
        · intro j hj
          rw [hnm, Bool.or_eq_true] at hj
          rcases hj with hj | hj
          · exact i2 j hj
          · have hjl : j ≤ t.length := by
              by_cases h : j < xl.length
              · have := ix.1; omega
              · rw [List.getD_eq_getElem?_getD, List.getElem?_eq_none (by omega)] at hj; cases hj
            obtain ⟨i, hi, hmt⟩ := (ix.2 j hjl).1 hj
            obtain ⟨i0, hi0, hs⟩ := i2 i hi
            exact ⟨i0, hi0, hs.snoc hmt⟩
  · rintro e h' hf
    exact hf.elim
end Go.Rx

namespace Go.Rx
variable {M : Mach}
set_option maxRecDepth 4000
set_option linter.unusedSimpArgs false
set_option linter.unusedVariables false

theorem SlV.cutN {h : Heap} {v : Value} {vs : List Value} (hs : SlV h v vs) : v = .slice none 0 0 ∧ vs = [] ∨ ∃ b off sp c cs e rw, v = .slice (some ⟨b, off, sp⟩) vs.length c ∧ h.at b = some (.cells cs e rw) ∧ cut cs off vs.length = some vs := by
  obtain ⟨_, h1 | ⟨b, off, sp, c, cs, e, rw', h1, hb1, h2, h3, h4⟩⟩ := hs
  · exact .inl h1
  · refine .inr ⟨b, off, sp, c, cs, e, rw', h1, h2, ?_⟩
    rw [cut_ok h3]
    congr 1
    apply List.ext_getElem?
    intro i
    rw [List.getElem?_take]
    split
    · rename_i hi
      rw [List.getElem?_drop, h4 i hi]
    · rename_i hi
      rw [List.getElem?_eq_none (by omega)]
theorem copy_ok {h : Heap} {vx vy : Value} {lx ly : List Bool} (hx : OwnV h 4 vx (lx.map .bool)) (hy : BV h vy ly) (hl : lx.length = ly.length) (h0 : 0 < lx.length) : ∃ h', copyV h 1 vx vy = some (.int .i64 ly.length, h') ∧ OwnV h' 4 vx (ly.map .bool) ∧ Chg (bno vx) h h' := by
  obtain ⟨hb, ⟨_, h1⟩ | ⟨b, c, rest, rfl, h2, h3, h4⟩⟩ := hx
  · have := List.map_eq_nil_iff.1 h1
    rw [this] at h0; simp at h0
  · simp only [List.length_map] at h4 ⊢
    have hnew : cpyNew h 1 lx.length vy = some (ly.map .bool, ly.length) := by
      rcases SlV.cutN hy with ⟨_, h1⟩ | ⟨b', off, sp, c', cs, e, rw', rfl, g1, g2⟩
      · have := List.map_eq_nil_iff.1 h1
        rw [this] at hl; simp only [List.length_nil] at hl; omega
      · simp only [List.length_map] at g2 ⊢
        show (match rdB off (min ly.length lx.length * 1) (h.at b') with | some l => some (l, min ly.length lx.length) | none => none) = _
        rw [g1, rdB_cells, hl, Nat.min_self, Nat.mul_one, g2]
    have hw : wrCells h ⟨b, 0, none⟩ (ly.map Value.bool) = some (h.set b (some (.cells (ly.map Value.bool ++ rest) 4 true))) := by
      show wrB h b 0 (ly.map Value.bool) (h.at b) = _
      rw [h3]
      show (bif allOne (ly.map Value.bool) then (match setAt (lx.map Value.bool ++ rest) 0 (ly.map Value.bool) with | some cs' => some (h.set b (some (.cells cs' 4 true))) | none => none) else none) = _
      rw [bools_one, setAt_eq, if_neg (fun he => by rw [List.map_eq_nil_iff.1 he] at hl; simp only [List.length_nil] at hl; omega), if_pos (by simp; omega)]
      simp only [cond_true, List.take_zero, List.nil_append, Nat.zero_add]
      rw [List.drop_left' (by simp [hl])]
    refine ⟨h.set b (some (.cells (ly.map Value.bool ++ rest) 4 true)), ?_, ⟨hb, .inr ⟨b, c, rest, by simp [hl], h2, at_set_same, by simp; omega⟩⟩, .set⟩
    unfold copyV
    simp only [hnew, beq_f (show ly.length ≠ 0 by omega), cond_false, hw]

structure REndsF (M : Mach) : Prop where
  mono : M.Mono
  o56 : M.O 56 = none
  f56 : M.F 56 = some A56
  o78 : M.O 78 = none
  f78 : M.F 78 = some A78
  o79 : M.O 79 = none
  f79 : M.F 79 = some A79
  o80 : M.O 80 = none
  f80 : M.F 80 = some A80

theorem rep_false {n j : Nat} : (List.replicate n false).getD j false = false := by
  by_cases h : j < n
  · rw [getD_rep h]
  · rw [List.getD_eq_getElem?_getD, List.getElem?_eq_none (by simp; omega)]; rfl
set_option maxHeartbeats 4000000 in
theorem rends_ok (m : REndsF M) {t : List UInt8} (ht : t.length ≤ 100000) (r : RegD) : r.may = true → r.size < 1000000 → REndsC M t r := by
  refine RegD.ind (P := fun r => r.may = true → r.size < 1000000 → REndsC M t r) ?_ r
  intro k s ps ih hmay hsz cs v l h K h1 hr hv hl hk
  rw [WF_eqT 12 m.o56 m.f56]
  obtain ⟨q1, q2, q3, pv, pss, q4, q5, q6⟩ := hr.b
  obtain ⟨z1, z2, z3⟩ := hr.cutSet
  rw [RegD.parts] at q6
  rw [RegD.kind] at q3
  rw [RegD.set] at z1 z2 z3
  rw [RegD.size] at hsz
  rw [RegD.may, Bool.and_eq_true, Bool.and_eq_true] at hmay
  obtain ⟨⟨hok, _⟩, hmps⟩ := hmay
  have hok := of_decide_eq_true (p := ((k = 0 ∨ k = 1 ∨ k = 2) ∧ ps.length = 0 ∨ (k = 3 ∨ k = 4) ∧ 1 ≤ ps.length ∨ (k = 5 ∨ k = 6 ∨ k = 7) ∧ ps.length = 1)) hok
  have hmps := mayR_all.1 hmps
  have hpl := (RegL.iff.1 q6).1
  have hsl := sizeR_len ps
  have IH : ∀ p, p ∈ ps → REndsC M t p := fun p hp => by
    obtain ⟨i, hi⟩ := mem_get hp
    have := sizeR_get hi
    intro cs' v' l' h' K'
    exact ih p hp (hmps p hp) (by omega)
  simp (maxSteps := 2000000) (disch := first | omega | assumption | (simp only [zA]; done) | (simp only [zB] <;> omega) | fail) only [Go.Rx.vi, Go.Rx.vb, Go.Rx.vstr, rxc, rxo, zC, Nat.reduceLeDiff, ↓reduceIte, Nat.reduceEqDiff, Nat.reduceAdd, Nat.reduceMul, Nat.reducePow, Int.reduceToNat, Int.reducePow, A56, R56_0, q1]
  obtain ⟨h2, e2, g2, n2, b2⟩ := boxed h cs 48
  rw [e2]
  simp (maxSteps := 2000000) (disch := first | omega | assumption | (simp only [zA]; done) | (simp only [zB] <;> omega) | fail) only [Go.Rx.vi, Go.Rx.vb, Go.Rx.vstr, rxc, rxo, zC, Nat.reduceLeDiff, ↓reduceIte, Nat.reduceEqDiff, Nat.reduceAdd, Nat.reduceMul, Nat.reducePow, Int.reduceToNat, Int.reducePow, R56_1]
  refine WI_makec (by omega) (by omega) (by omega) (by omega) (by omega) (by omega) ?_
  intro vo h3 oo g3 bo
  have n3 := g3.next
  have b3 : h3.at h.next = _ := (g3.at_ _ h1 (by omega)).trans b2
  have oo : OwnV h3 4 vo ((List.replicate (t.length + 1) false).map .bool) := by rw [← bools_rep]; simpa using oo
  have g23 := g2.trans g3
  simp (maxSteps := 2000000) (disch := first | omega | assumption | (simp only [zA]; done) | (simp only [zB] <;> omega) | fail) only [Go.Rx.vi, Go.Rx.vb, Go.Rx.vstr, rxc, rxo, zC, Nat.reduceLeDiff, ↓reduceIte, Nat.reduceEqDiff, Nat.reduceAdd, Nat.reduceMul, Nat.reducePow, Int.reduceToNat, Int.reducePow, R56_2, b3, q3, R56_3]
  have get0 : 1 ≤ ps.length → ∃ p0, ps[0]? = some p0 ∧ p0 ∈ ps ∧ RegC h p0 (pss.getD 0 []) := fun h0 => by
    obtain ⟨p0, e0, c0⟩ := q6.get (i := 0) (by omega)
    exact ⟨p0, e0, List.mem_of_getElem? e0, c0⟩
  have hd0 : ∀ {p0 : RegD}, ps[0]? = some p0 → ∀ i j, HdM t ps i j ↔ Mt t p0 i j := by
    intro p0 e0 i j
    cases ps with
    | nil => simp at e0
    | cons q qs => simp at e0; subst e0; rw [HdM]
  have star0 : ∀ {p0 : RegD}, ps[0]? = some p0 → ∀ i j, Star (fun a b => HdM t ps a b) i j ↔ Star (Mt t p0) i j := by
    intro p0 f0 i j
    have : (fun a b => HdM t ps a b) = Mt t p0 := by
      funext a b
      exact propext (hd0 f0 a b)
    rw [this]
  have lout : ∀ {j : Nat}, l.getD j false = true → j ≤ t.length := by
    intro j hj
    by_cases h : j < l.length
    · omega
    · rw [List.getD_eq_getElem?_getD, List.getElem?_eq_none (by omega)] at hj; cases hj
  refine WCond_dec (fun hk1 => ?_) (fun hk1 => ?_)
  · obtain ⟨h4, c1, c2, c3⟩ := copy_ok oo (hv.gp g23) (by simp [hl]) (by simp)
    simp (maxSteps := 2000000) (disch := first | omega | assumption | (simp only [zA]; done) | (simp only [zB] <;> omega) | fail) only [Go.Rx.vi, Go.Rx.vb, Go.Rx.vstr, rxc, rxo, zC, Nat.reduceLeDiff, ↓reduceIte, Nat.reduceEqDiff, Nat.reduceAdd, Nat.reduceMul, Nat.reducePow, Int.reduceToNat, Int.reducePow, R56_4, c1, R56_28]
    refine hk vo l h4 c2.sl ⟨hl, fun j hj => ?_⟩ (g23.chg c3 (by omega))
    constructor
    · intro hj; exact ⟨j, hj, Mt_kind.2 (.inl ⟨hk1, rfl⟩)⟩
    · rintro ⟨i, hi, hmt⟩
      rcases Mt_kind.1 hmt with h | h | h | h | h | h | h
      · rw [← h.2]; exact hi
      all_goals omega
  simp (maxSteps := 2000000) (disch := first | omega | assumption | (simp only [zA]; done) | (simp only [zB] <;> omega) | fail) only [Go.Rx.vi, Go.Rx.vb, Go.Rx.vstr, rxc, rxo, zC, Nat.reduceLeDiff, ↓reduceIte, Nat.reduceEqDiff, Nat.reduceAdd, Nat.reduceMul, Nat.reducePow, Int.reduceToNat, Int.reducePow, R56_5]
  refine WCond_dec (fun hk2 => ?_) (fun hk2 => ?_)
  · simp (maxSteps := 2000000) (disch := first | omega | assumption | (simp only [zA]; done) | (simp only [zB] <;> omega) | fail) only [Go.Rx.vi, Go.Rx.vb, Go.Rx.vstr, rxc, rxo, zC, Nat.reduceLeDiff, ↓reduceIte, Nat.reduceEqDiff, Nat.reduceAdd, Nat.reduceMul, Nat.reducePow, Int.reduceToNat, Int.reducePow, R56_6, b3, z1]
    refine flags_ok m.o78 m.f78 (by omega) z2 z3 ?_
    intro h4 g4
    have n4 := g4.next
    have lf : ((flg s).map Value.bool).length = 256 := by simp [flg]
    simp (maxSteps := 2000000) (disch := first | omega | assumption | (simp only [zA]; done) | (simp only [zB] <;> omega) | fail) only [Go.Rx.vi, Go.Rx.vb, Go.Rx.vstr, rxc, rxo, zC, Nat.reduceLeDiff, ↓reduceIte, Nat.reduceEqDiff, Nat.reduceAdd, Nat.reduceMul, Nat.reducePow, Int.reduceToNat, Int.reducePow, falses, lf, stAll (zs := (List.replicate 256 false).map Value.bool) lf (bools_one _)]
    obtain ⟨h5, e5, g5, n5, b5⟩ := boxed2 h4 ((List.replicate 256 false).map Value.bool) ((flg s).map Value.bool) 120
    rw [e5]
    have g35 := g4.trans g5
    have oo5 := oo.gp g35
    simp (maxSteps := 2000000) (disch := first | omega | assumption | (simp only [zA]; done) | (simp only [zB] <;> omega) | fail) only [Go.Rx.vi, Go.Rx.vb, Go.Rx.vstr, rxc, rxo, zC, Nat.reduceLeDiff, ↓reduceIte, Nat.reduceEqDiff, Nat.reduceAdd, Nat.reduceMul, Nat.reducePow, Int.reduceToNat, Int.reducePow, R56_7]
    refine WC_bloop 12 (fun mm e h' => ∃ (i : Nat) (o : List Bool), mm = t.length - i ∧ i ≤ t.length ∧ o.length = t.length + 1 ∧ (∀ j, o.getD j false = true ↔ ∃ a, a < i ∧ j = a + 1 ∧ l.getD a false = true ∧ hasS s (t.getD a 0).toNat = true) ∧ e.g 1 = vstr t ∧ e.g 2 = v ∧ e.g 7 = vo ∧ e.g 8 = .pointer (some ⟨h4.next, 0, none⟩) ∧ e.g 9 = .int .i64 i ∧ OwnV h' 4 vo (o.map .bool) ∧ Chg (bno vo) h5 h')
      (fun e h' => ∃ (o : List Bool), o.length = t.length + 1 ∧ (∀ j, o.getD j false = true ↔ ∃ a, a < t.length ∧ j = a + 1 ∧ l.getD a false = true ∧ hasS s (t.getD a 0).toNat = true) ∧ e.g 7 = vo ∧ OwnV h' 4 vo (o.map .bool) ∧ Chg (bno vo) h5 h') ?_ ?_ ?_
    · refine ⟨_, 0, List.replicate (t.length + 1) false, rfl, by omega, by simp, ?_, ?_, ?_, ?_, ?_, ?_, oo5, .refl _ _⟩
      · intro j
        rw [rep_false]
        constructor
        · intro h; cases h
        · rintro ⟨a, ha, _⟩; omega
      · simp (maxSteps := 2000000) (disch := first | omega | assumption | (simp only [zA]; done) | (simp only [zB] <;> omega) | fail) only [Go.Rx.vi, Go.Rx.vb, Go.Rx.vstr, rxc, rxo, zC, Nat.reduceLeDiff, ↓reduceIte, Nat.reduceEqDiff, Nat.reduceAdd, Nat.reduceMul, Nat.reducePow, Int.reduceToNat, Int.reducePow]
      · simp (maxSteps := 2000000) (disch := first | omega | assumption | (simp only [zA]; done) | (simp only [zB] <;> omega) | fail) only [Go.Rx.vi, Go.Rx.vb, Go.Rx.vstr, rxc, rxo, zC, Nat.reduceLeDiff, ↓reduceIte, Nat.reduceEqDiff, Nat.reduceAdd, Nat.reduceMul, Nat.reducePow, Int.reduceToNat, Int.reducePow]
      · simp (maxSteps := 2000000) (disch := first | omega | assumption | (simp only [zA]; done) | (simp only [zB] <;> omega) | fail) only [Go.Rx.vi, Go.Rx.vb, Go.Rx.vstr, rxc, rxo, zC, Nat.reduceLeDiff, ↓reduceIte, Nat.reduceEqDiff, Nat.reduceAdd, Nat.reduceMul, Nat.reducePow, Int.reduceToNat, Int.reducePow]
      · simp (maxSteps := 2000000) (disch := first | omega | assumption | (simp only [zA]; done) | (simp only [zB] <;> omega) | fail) only [Go.Rx.vi, Go.Rx.vb, Go.Rx.vstr, rxc, rxo, zC, Nat.reduceLeDiff, ↓reduceIte, Nat.reduceEqDiff, Nat.reduceAdd, Nat.reduceMul, Nat.reducePow, Int.reduceToNat, Int.reducePow]
      · simp (maxSteps := 2000000) (disch := first | omega | assumption | (simp only [zA]; done) | (simp only [zB] <;> omega) | fail) only [Go.Rx.vi, Go.Rx.vb, Go.Rx.vstr, rxc, rxo, zC, Nat.reduceLeDiff, ↓reduceIte, Nat.reduceEqDiff, Nat.reduceAdd, Nat.reduceMul, Nat.reducePow, Int.reduceToNat, Int.reducePow] <;> rfl
    · rintro mm e h' ⟨i, o, rfl, hi, hol, ho, e1, e2, e7, e8, e9, own, c⟩
      have gA : GrowP h h' := (g23.trans g35).chg c (by omega)
      have rv := ((hv.gp gA)).r
      have ro := own.sl.r
      have ownlt := oo.1
      have d5 : h'.at h4.next = _ := (c.at_ _ (by omega) (by omega)).trans b5
      simp only [List.length_map, hol] at ro
      simp (maxSteps := 2000000) (disch := first | omega | assumption | (simp only [zA]; done) | (simp only [zB] <;> omega) | fail) only [Go.Rx.vi, Go.Rx.vb, Go.Rx.vstr, rxc, rxo, zC, Nat.reduceLeDiff, ↓reduceIte, Nat.reduceEqDiff, Nat.reduceAdd, Nat.reduceMul, Nat.reducePow, Int.reduceToNat, Int.reducePow, B56_0, R56_8, e1, e9]
      refine WCond_dec (fun hc => ?_) (fun hc => ?_)
      · have hby : (t.getD i 0).toNat < 256 := UInt8.toNat_lt _
        have hfl : ((flg s).map Value.bool)[(t.getD i 0).toNat]? = some (.bool (hasS s (t.getD i 0).toNat)) := by
          rw [List.getElem?_map, flg, List.getElem?_map, List.getElem?_range (by omega)]; rfl
        have step : ∀ (e : Env) (x : Bool), x = (l.getD i false && hasS s (t.getD i 0).toNat) → e.g 1 = vstr t → e.g 2 = v → e.g 7 = vo → e.g 8 = .pointer (some ⟨h4.next, 0, none⟩) → e.g 9 = .int .i64 i → ∀ h'', OwnV h'' 4 vo ((o.map .bool).set (i + 1) (.bool x)) → Chg (bno vo) h5 h'' → WB M R56_10 e h'' (BLoopK M (fun mm e h' => ∃ (i : Nat) (o : List Bool), mm = t.length - i ∧ i ≤ t.length ∧ o.length = t.length + 1 ∧ (∀ j, o.getD j false = true ↔ ∃ a, a < i ∧ j = a + 1 ∧ l.getD a false = true ∧ hasS s (t.getD a 0).toNat = true) ∧ e.g 1 = vstr t ∧ e.g 2 = v ∧ e.g 7 = vo ∧ e.g 8 = .pointer (some ⟨h4.next, 0, none⟩) ∧ e.g 9 = .int .i64 i ∧ OwnV h' 4 vo (o.map .bool) ∧ Chg (bno vo) h5 h')
            (t.length - i) 1 (fun e h' => ∃ (o : List Bool), o.length = t.length + 1 ∧ (∀ j, o.getD j false = true ↔ ∃ a, a < t.length ∧ j = a + 1 ∧ l.getD a false = true ∧ hasS s (t.getD a 0).toNat = true) ∧ e.g 7 = vo ∧ OwnV h' 4 vo (o.map .bool) ∧ Chg (bno vo) h5 h') (BlockK 0 (SeqK M (.seq (.reg R56_28) .ret) (FunK [(6, none)] K))) .normal) := by
          intro e x hx e1 e2 e7 e8 e9 h'' own2 c2
          rw [← TE_nil (n := 12) (e := e)]
          simp (maxSteps := 2000000) (disch := first | omega | assumption | (simp only [zA]; done) | (simp only [zB] <;> omega) | fail) only [Go.Rx.vi, Go.Rx.vb, Go.Rx.vstr, rxc, rxo, zC, Nat.reduceLeDiff, ↓reduceIte, Nat.reduceEqDiff, Nat.reduceAdd, Nat.reduceMul, Nat.reducePow, Int.reduceToNat, Int.reducePow, R56_10, e1, e2, e7, e8, e9]
          refine ⟨_, ?_, i + 1, o.set (i + 1) x, rfl, by omega, by simpa using hol, ?_, ?_, by rw [← bools_set]; exact own2, c2⟩
          · omega
          · intro j
            rw [getD_set (by omega)]
            split
            · rename_i hij
              subst hij
              rw [hx, Bool.and_eq_true]
              constructor
              · rintro ⟨h3, h4⟩; exact ⟨i, by omega, rfl, h3, h4⟩
              · rintro ⟨a, _, ha, h3, h4⟩
                obtain rfl : a = i := by omega
                exact ⟨h3, h4⟩
            · rename_i hij
              rw [ho j]
              constructor
              · rintro ⟨a, ha, h3⟩; exact ⟨a, by omega, h3⟩
              · rintro ⟨a, ha, hj, h3⟩; exact ⟨a, by omega, hj, h3⟩
          · simp
        have hi1 : ((i : Int) + 1).toNat = i + 1 := by omega
        simp (maxSteps := 2000000) (disch := first | omega | assumption | (simp only [zA]; done) | (simp only [zB] <;> omega) | fail) only [Go.Rx.vi, Go.Rx.vb, Go.Rx.vstr, rxc, rxo, zC, Nat.reduceLeDiff, ↓reduceIte, Nat.reduceEqDiff, Nat.reduceAdd, Nat.reduceMul, Nat.reducePow, Int.reduceToNat, Int.reducePow, R56_9, e1, e2, e7, e8, e9, rv, ro, hi1]
        cases hli : l.getD i false with
        | true =>
          simp (maxSteps := 2000000) (disch := first | omega | assumption | (simp only [zA]; done) | (simp only [zB] <;> omega) | fail) only [Go.Rx.vi, Go.Rx.vb, Go.Rx.vstr, rxc, rxo, zC, Nat.reduceLeDiff, ↓reduceIte, Nat.reduceEqDiff, Nat.reduceAdd, Nat.reduceMul, Nat.reducePow, Int.reduceToNat, Int.reducePow, e1, e2, e7, e8, e9, rv, ro, hi1, d5, hfl]
          refine WI_storec own (by simp; omega) rfl ?_
          intro h'' own2 c3
          simp (maxSteps := 2000000) (disch := first | omega | assumption | (simp only [zA]; done) | (simp only [zB] <;> omega) | fail) only [Go.Rx.vi, Go.Rx.vb, Go.Rx.vstr, rxc, rxo, zC, Nat.reduceLeDiff, ↓reduceIte, Nat.reduceEqDiff, Nat.reduceAdd, Nat.reduceMul, Nat.reducePow, Int.reduceToNat, Int.reducePow]
          refine step _ _ ?_ ?_ ?_ ?_ ?_ ?_ h'' own2 (c.trans c3)
          · rw [hli, Bool.true_and]
          · simp (maxSteps := 2000000) (disch := first | omega | assumption | (simp only [zA]; done) | (simp only [zB] <;> omega) | fail) only [Go.Rx.vi, Go.Rx.vb, Go.Rx.vstr, rxc, rxo, zC, Nat.reduceLeDiff, ↓reduceIte, Nat.reduceEqDiff, Nat.reduceAdd, Nat.reduceMul, Nat.reducePow, Int.reduceToNat, Int.reducePow, e1]
          · simp (maxSteps := 2000000) (disch := first | omega | assumption | (simp only [zA]; done) | (simp only [zB] <;> omega) | fail) only [Go.Rx.vi, Go.Rx.vb, Go.Rx.vstr, rxc, rxo, zC, Nat.reduceLeDiff, ↓reduceIte, Nat.reduceEqDiff, Nat.reduceAdd, Nat.reduceMul, Nat.reducePow, Int.reduceToNat, Int.reducePow, e2]
          · simp (maxSteps := 2000000) (disch := first | omega | assumption | (simp only [zA]; done) | (simp only [zB] <;> omega) | fail) only [Go.Rx.vi, Go.Rx.vb, Go.Rx.vstr, rxc, rxo, zC, Nat.reduceLeDiff, ↓reduceIte, Nat.reduceEqDiff, Nat.reduceAdd, Nat.reduceMul, Nat.reducePow, Int.reduceToNat, Int.reducePow, e7]
          · simp (maxSteps := 2000000) (disch := first | omega | assumption | (simp only [zA]; done) | (simp only [zB] <;> omega) | fail) only [Go.Rx.vi, Go.Rx.vb, Go.Rx.vstr, rxc, rxo, zC, Nat.reduceLeDiff, ↓reduceIte, Nat.reduceEqDiff, Nat.reduceAdd, Nat.reduceMul, Nat.reducePow, Int.reduceToNat, Int.reducePow, e8]
          · simp (maxSteps := 2000000) (disch := first | omega | assumption | (simp only [zA]; done) | (simp only [zB] <;> omega) | fail) only [Go.Rx.vi, Go.Rx.vb, Go.Rx.vstr, rxc, rxo, zC, Nat.reduceLeDiff, ↓reduceIte, Nat.reduceEqDiff, Nat.reduceAdd, Nat.reduceMul, Nat.reducePow, Int.reduceToNat, Int.reducePow, e9]
        | false =>
          simp (maxSteps := 2000000) (disch := first | omega | assumption | (simp only [zA]; done) | (simp only [zB] <;> omega) | fail) only [Go.Rx.vi, Go.Rx.vb, Go.Rx.vstr, rxc, rxo, zC, Nat.reduceLeDiff, ↓reduceIte, Nat.reduceEqDiff, Nat.reduceAdd, Nat.reduceMul, Nat.reducePow, Int.reduceToNat, Int.reducePow, e7, e9, ro, hi1]
          refine WI_storec own (by simp; omega) rfl ?_
          intro h'' own2 c3
          simp (maxSteps := 2000000) (disch := first | omega | assumption | (simp only [zA]; done) | (simp only [zB] <;> omega) | fail) only [Go.Rx.vi, Go.Rx.vb, Go.Rx.vstr, rxc, rxo, zC, Nat.reduceLeDiff, ↓reduceIte, Nat.reduceEqDiff, Nat.reduceAdd, Nat.reduceMul, Nat.reducePow, Int.reduceToNat, Int.reducePow]
          refine step _ _ ?_ ?_ ?_ ?_ ?_ ?_ h'' own2 (c.trans c3)
          · rw [hli, Bool.false_and]
          · simp (maxSteps := 2000000) (disch := first | omega | assumption | (simp only [zA]; done) | (simp only [zB] <;> omega) | fail) only [Go.Rx.vi, Go.Rx.vb, Go.Rx.vstr, rxc, rxo, zC, Nat.reduceLeDiff, ↓reduceIte, Nat.reduceEqDiff, Nat.reduceAdd, Nat.reduceMul, Nat.reducePow, Int.reduceToNat, Int.reducePow, e1]
          · simp (maxSteps := 2000000) (disch := first | omega | assumption | (simp only [zA]; done) | (simp only [zB] <;> omega) | fail) only [Go.Rx.vi, Go.Rx.vb, Go.Rx.vstr, rxc, rxo, zC, Nat.reduceLeDiff, ↓reduceIte, Nat.reduceEqDiff, Nat.reduceAdd, Nat.reduceMul, Nat.reducePow, Int.reduceToNat, Int.reducePow, e2]
          · simp (maxSteps := 2000000) (disch := first | omega | assumption | (simp only [zA]; done) | (simp only [zB] <;> omega) | fail) only [Go.Rx.vi, Go.Rx.vb, Go.Rx.vstr, rxc, rxo, zC, Nat.reduceLeDiff, ↓reduceIte, Nat.reduceEqDiff, Nat.reduceAdd, Nat.reduceMul, Nat.reducePow, Int.reduceToNat, Int.reducePow, e7]
          · simp (maxSteps := 2000000) (disch := first | omega | assumption | (simp only [zA]; done) | (simp only [zB] <;> omega) | fail) only [Go.Rx.vi, Go.Rx.vb, Go.Rx.vstr, rxc, rxo, zC, Nat.reduceLeDiff, ↓reduceIte, Nat.reduceEqDiff, Nat.reduceAdd, Nat.reduceMul, Nat.reducePow, Int.reduceToNat, Int.reducePow, e8]
          · simp (maxSteps := 2000000) (disch := first | omega | assumption | (simp only [zA]; done) | (simp only [zB] <;> omega) | fail) only [Go.Rx.vi, Go.Rx.vb, Go.Rx.vstr, rxc, rxo, zC, Nat.reduceLeDiff, ↓reduceIte, Nat.reduceEqDiff, Nat.reduceAdd, Nat.reduceMul, Nat.reducePow, Int.reduceToNat, Int.reducePow, e9]
      · simp (maxSteps := 2000000) (disch := first | omega | assumption | (simp only [zA]; done) | (simp only [zB] <;> omega) | fail) only [Go.Rx.vi, Go.Rx.vb, Go.Rx.vstr, rxc, rxo, zC, Nat.reduceLeDiff, ↓reduceIte, Nat.reduceEqDiff, Nat.reduceAdd, Nat.reduceMul, Nat.reducePow, Int.reduceToNat, Int.reducePow, e7]
        have : i = t.length := by omega
        subst this
        exact ⟨o, hol, ho, own, c⟩
    · rintro e h' ⟨o, hol, ho, e7, own, c⟩
      simp (maxSteps := 2000000) (disch := first | omega | assumption | (simp only [zA]; done) | (simp only [zB] <;> omega) | fail) only [Go.Rx.vi, Go.Rx.vb, Go.Rx.vstr, rxc, rxo, zC, Nat.reduceLeDiff, ↓reduceIte, Nat.reduceEqDiff, Nat.reduceAdd, Nat.reduceMul, Nat.reducePow, Int.reduceToNat, Int.reducePow, R56_28, e7]
      refine hk _ _ _ own.sl ⟨hol, fun j hj => ?_⟩ ((g23.trans g35).chg c (by omega))
      rw [ho j]
      constructor
      · rintro ⟨a, ha, rfl, h3, h4⟩
        exact ⟨a, h3, Mt_kind.2 (.inr (.inl ⟨hk2, rfl, ha, h4⟩))⟩
      · rintro ⟨i, hi, hmt⟩
        rcases Mt_kind.1 hmt with h | h | h | h | h | h | h
        · omega
        · exact ⟨i, h.2.2.1, h.2.1, hi, h.2.2.2⟩
        all_goals omega
  simp (maxSteps := 2000000) (disch := first | omega | assumption | (simp only [zA]; done) | (simp only [zB] <;> omega) | fail) only [Go.Rx.vi, Go.Rx.vb, Go.Rx.vstr, rxc, rxo, zC, Nat.reduceLeDiff, ↓reduceIte, Nat.reduceEqDiff, Nat.reduceAdd, Nat.reduceMul, Nat.reducePow, Int.reduceToNat, Int.reducePow, R56_11]
  refine WCond_dec (fun hk3 => ?_) (fun hk3 => ?_)
  · obtain ⟨h4, c1, c2, c3⟩ := copy_ok oo (hv.gp g23) (by simp [hl]) (by simp)
    have n4 := c3.next
    have ownlt := oo.1
    simp (maxSteps := 2000000) (disch := first | omega | assumption | (simp only [zA]; done) | (simp only [zB] <;> omega) | fail) only [Go.Rx.vi, Go.Rx.vb, Go.Rx.vstr, rxc, rxo, zC, Nat.reduceLeDiff, ↓reduceIte, Nat.reduceEqDiff, Nat.reduceAdd, Nat.reduceMul, Nat.reducePow, Int.reduceToNat, Int.reducePow, R56_12, c1, R56_13]
    have g4 : GrowP h2 h4 := g3.chg c3 (by omega)
    refine WC_bloop 12 (fun mm e h' => ∃ (i : Nat) (u : Value) (o : List Bool), mm = pss.length - i ∧ i ≤ pss.length ∧ e.g 1 = vstr t ∧ e.g 3 = .pointer (some ⟨h.next, 0, none⟩) ∧ e.g 7 = u ∧ e.g 10 = .int .i64 i ∧ BV h' u o ∧ BImg t.length (SeqM t (ps.take i)) l o ∧ GrowP h2 h')
      (fun e h' => ∃ (u : Value) (o : List Bool), e.g 7 = u ∧ BV h' u o ∧ BImg t.length (SeqM t ps) l o ∧ GrowP h2 h') ?_ ?_ ?_
    · refine ⟨_, 0, vo, l, rfl, by omega, ?_, ?_, ?_, ?_, c2.sl, ⟨hl, fun j hj => ?_⟩, g4⟩
      · simp (maxSteps := 2000000) (disch := first | omega | assumption | (simp only [zA]; done) | (simp only [zB] <;> omega) | fail) only [Go.Rx.vi, Go.Rx.vb, Go.Rx.vstr, rxc, rxo, zC, Nat.reduceLeDiff, ↓reduceIte, Nat.reduceEqDiff, Nat.reduceAdd, Nat.reduceMul, Nat.reducePow, Int.reduceToNat, Int.reducePow]
      · simp (maxSteps := 2000000) (disch := first | omega | assumption | (simp only [zA]; done) | (simp only [zB] <;> omega) | fail) only [Go.Rx.vi, Go.Rx.vb, Go.Rx.vstr, rxc, rxo, zC, Nat.reduceLeDiff, ↓reduceIte, Nat.reduceEqDiff, Nat.reduceAdd, Nat.reduceMul, Nat.reducePow, Int.reduceToNat, Int.reducePow]
      · simp (maxSteps := 2000000) (disch := first | omega | assumption | (simp only [zA]; done) | (simp only [zB] <;> omega) | fail) only [Go.Rx.vi, Go.Rx.vb, Go.Rx.vstr, rxc, rxo, zC, Nat.reduceLeDiff, ↓reduceIte, Nat.reduceEqDiff, Nat.reduceAdd, Nat.reduceMul, Nat.reducePow, Int.reduceToNat, Int.reducePow]
      · simp (maxSteps := 2000000) (disch := first | omega | assumption | (simp only [zA]; done) | (simp only [zB] <;> omega) | fail) only [Go.Rx.vi, Go.Rx.vb, Go.Rx.vstr, rxc, rxo, zC, Nat.reduceLeDiff, ↓reduceIte, Nat.reduceEqDiff, Nat.reduceAdd, Nat.reduceMul, Nat.reducePow, Int.reduceToNat, Int.reducePow] <;> rfl
      · simp [SeqM]
    · rintro mm e h' ⟨i, u, o, rfl, hi, e1, e3, e7, e10, ou, im, g⟩
      have r1 := ((q5.gp g2).gp g).r
      have gn := g.next
      have b4 : h'.at h.next = _ := (g.at_ _ h1 (by omega)).trans b2
      simp (maxSteps := 2000000) (disch := first | omega | assumption | (simp only [zA]; done) | (simp only [zB] <;> omega) | fail) only [Go.Rx.vi, Go.Rx.vb, Go.Rx.vstr, rxc, rxo, zC, Nat.reduceLeDiff, ↓reduceIte, Nat.reduceEqDiff, Nat.reduceAdd, Nat.reduceMul, Nat.reducePow, Int.reduceToNat, Int.reducePow, B56_1, R56_14, e3, e10, b4, q4, r1]
      refine WCond_dec (fun hc => ?_) (fun hc => ?_)
      · obtain ⟨p, hpi, hpc⟩ := q6.get (i := i) (by omega)
        simp (maxSteps := 2000000) (disch := first | omega | assumption | (simp only [zA]; done) | (simp only [zB] <;> omega) | fail) only [Go.Rx.vi, Go.Rx.vb, Go.Rx.vstr, rxc, rxo, zC, Nat.reduceLeDiff, ↓reduceIte, Nat.reduceEqDiff, Nat.reduceAdd, Nat.reduceMul, Nat.reducePow, Int.reduceToNat, Int.reducePow, R56_15, e1, e3, e7, e10, b4, q4, r1]
        refine IH p (List.mem_of_getElem? hpi) (by omega) ((hpc.gp g2).gp g) ou im.1 ?_
        intro u' o' h5 ou' im' g5
        simp (maxSteps := 2000000) (disch := first | omega | assumption | (simp only [zA]; done) | (simp only [zB] <;> omega) | fail) only [Go.Rx.vi, Go.Rx.vb, Go.Rx.vstr, rxc, rxo, zC, Nat.reduceLeDiff, ↓reduceIte, Nat.reduceEqDiff, Nat.reduceAdd, Nat.reduceMul, Nat.reducePow, Int.reduceToNat, Int.reducePow, R56_16, e1, e3, e10]
        refine ⟨_, ?_, i + 1, u', o', rfl, by omega, rfl, ?_, ou', ⟨im'.1, fun j hj => ?_⟩, g.trans g5⟩
        · omega
        · simp
        · rw [im'.2 j hj, List.take_add_one, hpi]
          constructor
          · rintro ⟨a, ha, hmt⟩
            have := Mt_le p _ _ hmt
            obtain ⟨b, hb, hs⟩ := (im.2 a (by omega)).1 ha
            exact ⟨b, hb, SeqM_snoc.2 ⟨a, hs, hmt⟩⟩
          · rintro ⟨b, hb, hs⟩
            obtain ⟨a, h3, h4⟩ := SeqM_snoc.1 hs
            have := Mt_le p _ _ h4
            exact ⟨a, (im.2 a (by omega)).2 ⟨b, hb, h3⟩, h4⟩
      · simp (maxSteps := 2000000) (disch := first | omega | assumption | (simp only [zA]; done) | (simp only [zB] <;> omega) | fail) only [Go.Rx.vi, Go.Rx.vb, Go.Rx.vstr, rxc, rxo, zC, Nat.reduceLeDiff, ↓reduceIte, Nat.reduceEqDiff, Nat.reduceAdd, Nat.reduceMul, Nat.reducePow, Int.reduceToNat, Int.reducePow, e7]
        rw [List.take_of_length_le (by omega)] at im
        exact ⟨u, o, rfl, ou, im, g⟩
    · rintro e h' ⟨u, o, e7, ou, im, g⟩
      simp (maxSteps := 2000000) (disch := first | omega | assumption | (simp only [zA]; done) | (simp only [zB] <;> omega) | fail) only [Go.Rx.vi, Go.Rx.vb, Go.Rx.vstr, rxc, rxo, zC, Nat.reduceLeDiff, ↓reduceIte, Nat.reduceEqDiff, Nat.reduceAdd, Nat.reduceMul, Nat.reducePow, Int.reduceToNat, Int.reducePow, R56_28, e7]
      refine hk _ _ _ ou ⟨im.1, fun j hj => ?_⟩ (g2.trans g)
      rw [im.2 j hj]
      constructor
      · rintro ⟨i, hi, hs⟩
        exact ⟨i, hi, Mt_kind.2 (.inr (.inr (.inl ⟨hk3, hs⟩)))⟩
      · rintro ⟨i, hi, hmt⟩
        refine ⟨i, hi, ?_⟩
        rcases Mt_kind.1 hmt with h | h | h | h | h | h | h
        · omega
        · omega
        · exact h.2
        all_goals omega
  simp (maxSteps := 2000000) (disch := first | omega | assumption | (simp only [zA]; done) | (simp only [zB] <;> omega) | fail) only [Go.Rx.vi, Go.Rx.vb, Go.Rx.vstr, rxc, rxo, zC, Nat.reduceLeDiff, ↓reduceIte, Nat.reduceEqDiff, Nat.reduceAdd, Nat.reduceMul, Nat.reducePow, Int.reduceToNat, Int.reducePow, R56_17]
  refine WCond_dec (fun hk4 => ?_) (fun hk4 => ?_)
  · simp (maxSteps := 2000000) (disch := first | omega | assumption | (simp only [zA]; done) | (simp only [zB] <;> omega) | fail) only [Go.Rx.vi, Go.Rx.vb, Go.Rx.vstr, rxc, rxo, zC, Nat.reduceLeDiff, ↓reduceIte, Nat.reduceEqDiff, Nat.reduceAdd, Nat.reduceMul, Nat.reducePow, Int.reduceToNat, Int.reducePow, R56_18]
    refine WC_bloop 12 (fun mm e h' => ∃ (i : Nat) (u : Value) (o : List Bool), mm = pss.length - i ∧ i ≤ pss.length ∧ e.g 1 = vstr t ∧ e.g 2 = v ∧ e.g 3 = .pointer (some ⟨h.next, 0, none⟩) ∧ e.g 7 = u ∧ e.g 11 = .int .i64 i ∧ BV h' u o ∧ BImg t.length (AnyM t (ps.take i)) l o ∧ GrowP h2 h')
      (fun e h' => ∃ (u : Value) (o : List Bool), e.g 7 = u ∧ BV h' u o ∧ BImg t.length (AnyM t ps) l o ∧ GrowP h2 h') ?_ ?_ ?_
    · refine ⟨_, 0, vo, List.replicate (t.length + 1) false, rfl, by omega, ?_, ?_, ?_, ?_, ?_, oo.sl, ⟨by simp, fun j hj => ?_⟩, g3⟩
      · simp (maxSteps := 2000000) (disch := first | omega | assumption | (simp only [zA]; done) | (simp only [zB] <;> omega) | fail) only [Go.Rx.vi, Go.Rx.vb, Go.Rx.vstr, rxc, rxo, zC, Nat.reduceLeDiff, ↓reduceIte, Nat.reduceEqDiff, Nat.reduceAdd, Nat.reduceMul, Nat.reducePow, Int.reduceToNat, Int.reducePow]
      · simp (maxSteps := 2000000) (disch := first | omega | assumption | (simp only [zA]; done) | (simp only [zB] <;> omega) | fail) only [Go.Rx.vi, Go.Rx.vb, Go.Rx.vstr, rxc, rxo, zC, Nat.reduceLeDiff, ↓reduceIte, Nat.reduceEqDiff, Nat.reduceAdd, Nat.reduceMul, Nat.reducePow, Int.reduceToNat, Int.reducePow]
      · simp (maxSteps := 2000000) (disch := first | omega | assumption | (simp only [zA]; done) | (simp only [zB] <;> omega) | fail) only [Go.Rx.vi, Go.Rx.vb, Go.Rx.vstr, rxc, rxo, zC, Nat.reduceLeDiff, ↓reduceIte, Nat.reduceEqDiff, Nat.reduceAdd, Nat.reduceMul, Nat.reducePow, Int.reduceToNat, Int.reducePow]
      · simp (maxSteps := 2000000) (disch := first | omega | assumption | (simp only [zA]; done) | (simp only [zB] <;> omega) | fail) only [Go.Rx.vi, Go.Rx.vb, Go.Rx.vstr, rxc, rxo, zC, Nat.reduceLeDiff, ↓reduceIte, Nat.reduceEqDiff, Nat.reduceAdd, Nat.reduceMul, Nat.reducePow, Int.reduceToNat, Int.reducePow]
      · simp (maxSteps := 2000000) (disch := first | omega | assumption | (simp only [zA]; done) | (simp only [zB] <;> omega) | fail) only [Go.Rx.vi, Go.Rx.vb, Go.Rx.vstr, rxc, rxo, zC, Nat.reduceLeDiff, ↓reduceIte, Nat.reduceEqDiff, Nat.reduceAdd, Nat.reduceMul, Nat.reducePow, Int.reduceToNat, Int.reducePow] <;> rfl
      · rw [rep_false]; simp [AnyM]
    · rintro mm e h' ⟨i, u, o, rfl, hi, e1, e2, e3, e7, e11, ou, im, g⟩
      have r1 := ((q5.gp g2).gp g).r
      have gn := g.next
      have b4 : h'.at h.next = _ := (g.at_ _ h1 (by omega)).trans b2
      simp (maxSteps := 2000000) (disch := first | omega | assumption | (simp only [zA]; done) | (simp only [zB] <;> omega) | fail) only [Go.Rx.vi, Go.Rx.vb, Go.Rx.vstr, rxc, rxo, zC, Nat.reduceLeDiff, ↓reduceIte, Nat.reduceEqDiff, Nat.reduceAdd, Nat.reduceMul, Nat.reducePow, Int.reduceToNat, Int.reducePow, B56_2, R56_19, e3, e11, b4, q4, r1]
      refine WCond_dec (fun hc => ?_) (fun hc => ?_)
      · obtain ⟨p, hpi, hpc⟩ := q6.get (i := i) (by omega)
        simp (maxSteps := 2000000) (disch := first | omega | assumption | (simp only [zA]; done) | (simp only [zB] <;> omega) | fail) only [Go.Rx.vi, Go.Rx.vb, Go.Rx.vstr, rxc, rxo, zC, Nat.reduceLeDiff, ↓reduceIte, Nat.reduceEqDiff, Nat.reduceAdd, Nat.reduceMul, Nat.reducePow, Int.reduceToNat, Int.reducePow, R56_20, e1, e2, e3, e7, e11, b4, q4, r1]
        refine IH p (List.mem_of_getElem? hpi) (by omega) ((hpc.gp g2).gp g) ((hv.gp g2).gp g) hl ?_
        intro u' o' h5 ou' im' g5
        have n5 := g5.next
        simp (maxSteps := 2000000) (disch := first | omega | assumption | (simp only [zA]; done) | (simp only [zB] <;> omega) | fail) only [Go.Rx.vi, Go.Rx.vb, Go.Rx.vstr, rxc, rxo, zC, Nat.reduceLeDiff, ↓reduceIte, Nat.reduceEqDiff, Nat.reduceAdd, Nat.reduceMul, Nat.reducePow, Int.reduceToNat, Int.reducePow, e7]
        refine either_ok m.o79 m.f79 (by omega) (ou.gp g5) ou' (by rw [im.1, im'.1]) (by rw [im.1]; omega) ?_
        intro u6 h6 o6 g6
        simp (maxSteps := 2000000) (disch := first | omega | assumption | (simp only [zA]; done) | (simp only [zB] <;> omega) | fail) only [Go.Rx.vi, Go.Rx.vb, Go.Rx.vstr, rxc, rxo, zC, Nat.reduceLeDiff, ↓reduceIte, Nat.reduceEqDiff, Nat.reduceAdd, Nat.reduceMul, Nat.reducePow, Int.reduceToNat, Int.reducePow, R56_21, e1, e2, e3, e11]
        refine ⟨_, ?_, i + 1, u6, _, rfl, by omega, rfl, ?_, o6, ⟨by rw [List.length_zipWith, im.1, im'.1]; omega, fun j hj => ?_⟩, (g.trans g5).trans g6⟩
        · omega
        · simp
        · rw [getD_or (by rw [im.1, im'.1]), Bool.or_eq_true, im.2 j hj, im'.2 j hj, List.take_add_one, hpi]
          constructor
          · rintro (⟨a, ha, hs⟩ | ⟨a, ha, hs⟩)
            · exact ⟨a, ha, AnyM_snoc.2 (.inl hs)⟩
            · exact ⟨a, ha, AnyM_snoc.2 (.inr hs)⟩
          · rintro ⟨a, ha, hs⟩
            rcases AnyM_snoc.1 hs with hs | hs
            · exact .inl ⟨a, ha, hs⟩
            · exact .inr ⟨a, ha, hs⟩
      · simp (maxSteps := 2000000) (disch := first | omega | assumption | (simp only [zA]; done) | (simp only [zB] <;> omega) | fail) only [Go.Rx.vi, Go.Rx.vb, Go.Rx.vstr, rxc, rxo, zC, Nat.reduceLeDiff, ↓reduceIte, Nat.reduceEqDiff, Nat.reduceAdd, Nat.reduceMul, Nat.reducePow, Int.reduceToNat, Int.reducePow, e7]
        rw [List.take_of_length_le (by omega)] at im
        exact ⟨u, o, rfl, ou, im, g⟩
    · rintro e h' ⟨u, o, e7, ou, im, g⟩
      simp (maxSteps := 2000000) (disch := first | omega | assumption | (simp only [zA]; done) | (simp only [zB] <;> omega) | fail) only [Go.Rx.vi, Go.Rx.vb, Go.Rx.vstr, rxc, rxo, zC, Nat.reduceLeDiff, ↓reduceIte, Nat.reduceEqDiff, Nat.reduceAdd, Nat.reduceMul, Nat.reducePow, Int.reduceToNat, Int.reducePow, R56_28, e7]
      refine hk _ _ _ ou ⟨im.1, fun j hj => ?_⟩ (g2.trans g)
      rw [im.2 j hj]
      constructor
      · rintro ⟨i, hi, hs⟩
        exact ⟨i, hi, Mt_kind.2 (.inr (.inr (.inr (.inl ⟨hk4, hs⟩))))⟩
      · rintro ⟨i, hi, hmt⟩
        refine ⟨i, hi, ?_⟩
        rcases Mt_kind.1 hmt with h | h | h | h | h | h | h
        · omega
        · omega
        · omega
        · exact h.2
        all_goals omega
  simp (maxSteps := 2000000) (disch := first | omega | assumption | (simp only [zA]; done) | (simp only [zB] <;> omega) | fail) only [Go.Rx.vi, Go.Rx.vb, Go.Rx.vstr, rxc, rxo, zC, Nat.reduceLeDiff, ↓reduceIte, Nat.reduceEqDiff, Nat.reduceAdd, Nat.reduceMul, Nat.reducePow, Int.reduceToNat, Int.reducePow, R56_22]
  have rp := (q5.gp g23).r
  refine WCond_dec (fun hk7 => ?_) (fun hk7 => ?_)
  · obtain ⟨p0, f0, f1, f2⟩ := get0 (by omega)
    simp (maxSteps := 2000000) (disch := first | omega | assumption | (simp only [zA]; done) | (simp only [zB] <;> omega) | fail) only [Go.Rx.vi, Go.Rx.vb, Go.Rx.vstr, rxc, rxo, zC, Nat.reduceLeDiff, ↓reduceIte, Nat.reduceEqDiff, Nat.reduceAdd, Nat.reduceMul, Nat.reducePow, Int.reduceToNat, Int.reducePow, R56_23, b3, q4, rp]
    refine IH p0 f1 (by omega) (f2.gp g23) (hv.gp g23) hl ?_
    intro u' o' h5 ou' im' g5
    have n5 := g5.next
    simp (maxSteps := 2000000) (disch := first | omega | assumption | (simp only [zA]; done) | (simp only [zB] <;> omega) | fail) only [Go.Rx.vi, Go.Rx.vb, Go.Rx.vstr, rxc, rxo, zC, Nat.reduceLeDiff, ↓reduceIte, Nat.reduceEqDiff, Nat.reduceAdd, Nat.reduceMul, Nat.reducePow, Int.reduceToNat, Int.reducePow]
    refine either_ok m.o79 m.f79 (by omega) ((hv.gp g23).gp g5) ou' (by rw [hl, im'.1]) (by omega) ?_
    intro u6 h6 o6 g6
    simp (maxSteps := 2000000) (disch := first | omega | assumption | (simp only [zA]; done) | (simp only [zB] <;> omega) | fail) only [Go.Rx.vi, Go.Rx.vb, Go.Rx.vstr, rxc, rxo, zC, Nat.reduceLeDiff, ↓reduceIte, Nat.reduceEqDiff, Nat.reduceAdd, Nat.reduceMul, Nat.reducePow, Int.reduceToNat, Int.reducePow]
    refine hk _ _ _ o6 ⟨by rw [List.length_zipWith, hl, im'.1]; omega, fun j hj => ?_⟩ ((g23.trans g5).trans g6)
    rw [getD_or (by rw [hl, im'.1]), Bool.or_eq_true, im'.2 j hj]
    constructor
    · rintro (h | ⟨a, ha, hs⟩)
      · exact ⟨j, h, Mt_kind.2 (.inr (.inr (.inr (.inr (.inl ⟨hk7, .inl rfl⟩)))))⟩
      · exact ⟨a, ha, Mt_kind.2 (.inr (.inr (.inr (.inr (.inl ⟨hk7, .inr ((hd0 f0 _ _).2 hs)⟩)))))⟩
    · rintro ⟨i, hi, hmt⟩
      rcases Mt_kind.1 hmt with h | h | h | h | h | h | h
      · omega
      · omega
      · omega
      · omega
      · rcases h.2 with h | h
        · exact .inl (by rw [← h]; exact hi)
        · exact .inr ⟨i, hi, (hd0 f0 _ _).1 h⟩
      all_goals omega
  simp (maxSteps := 2000000) (disch := first | omega | assumption | (simp only [zA]; done) | (simp only [zB] <;> omega) | fail) only [Go.Rx.vi, Go.Rx.vb, Go.Rx.vstr, rxc, rxo, zC, Nat.reduceLeDiff, ↓reduceIte, Nat.reduceEqDiff, Nat.reduceAdd, Nat.reduceMul, Nat.reducePow, Int.reduceToNat, Int.reducePow, R56_24]
  refine WCond_dec (fun hk6 => ?_) (fun hk6 => ?_)
  · obtain ⟨p0, f0, f1, f2⟩ := get0 (by omega)
    have sref := sameA_ref q5
    have sreg := RegC.same f2
    simp (maxSteps := 2000000) (disch := first | omega | assumption | (simp only [zA]; done) | (simp only [zB] <;> omega) | fail) only [Go.Rx.vi, Go.Rx.vb, Go.Rx.vstr, rxc, rxo, zC, Nat.reduceLeDiff, ↓reduceIte, Nat.reduceEqDiff, Nat.reduceAdd, Nat.reduceMul, Nat.reducePow, Int.reduceToNat, Int.reducePow]
    refine WC_regd m.mono ?_
    simp (maxSteps := 2000000) (disch := first | omega | assumption | (simp only [zA]; done) | (simp only [zB] <;> omega) | fail) only [Go.Rx.vi, Go.Rx.vb, Go.Rx.vstr, rxc, rxo, zC, Nat.reduceLeDiff, ↓reduceIte, Nat.reduceEqDiff, Nat.reduceAdd, Nat.reduceMul, Nat.reducePow, Int.reduceToNat, Int.reducePow, R56_25, rxt, b3, q4, rp]
    refine IH p0 f1 (by omega) (f2.gp g23) (hv.gp g23) hl ?_
    intro u' o' h5 ou' im' g5
    have n5 := g5.next
    have b5 : h5.at h.next = _ := (g5.at_ _ h1 (by omega)).trans b3
    have rp5 := ((q5.gp g23).gp g5).r
    simp (maxSteps := 2000000) (disch := first | omega | assumption | (simp only [zA]; done) | (simp only [zB] <;> omega) | fail) only [Go.Rx.vi, Go.Rx.vb, Go.Rx.vstr, rxc, rxo, zC, Nat.reduceLeDiff, ↓reduceIte, Nat.reduceEqDiff, Nat.reduceAdd, Nat.reduceMul, Nat.reducePow, Int.reduceToNat, Int.reducePow, rxt]
    refine ragain_ok m.mono m.o80 m.f80 m.o79 m.f79 ht (IH p0 f1) (by omega) ((f2.gp g23).gp g5) ou' im'.1 ?_
    intro u6 o6 h6 ou6 im6 g6
    simp (maxSteps := 2000000) (disch := first | omega | assumption | (simp only [zA]; done) | (simp only [zB] <;> omega) | fail) only [Go.Rx.vi, Go.Rx.vb, Go.Rx.vstr, rxc, rxo, zC, Nat.reduceLeDiff, ↓reduceIte, Nat.reduceEqDiff, Nat.reduceAdd, Nat.reduceMul, Nat.reducePow, Int.reduceToNat, Int.reducePow, rxt]
    refine ⟨staysAll_cons (h1 := h3) (h2 := h5) rfl rfl (stays_on (v := pv) (h' := h3) rfl ?_ ?_) (stays_on (v := pv) (h' := h5) rfl ?_ ?_) (staysAll_one (h1 := h3) (h2 := h5) rfl rfl (stays_on (v := .agg ⟨pss.getD 0 []⟩) (h' := h3) rfl ?_ ?_) (stays_on (v := .agg ⟨pss.getD 0 []⟩) (h' := h5) rfl ?_ ?_)), ?_⟩
    · simp (maxSteps := 2000000) (disch := first | omega | assumption | (simp only [zA]; done) | (simp only [zB] <;> omega) | fail) only [Go.Rx.vi, Go.Rx.vb, Go.Rx.vstr, rxc, rxo, zC, Nat.reduceLeDiff, ↓reduceIte, Nat.reduceEqDiff, Nat.reduceAdd, Nat.reduceMul, Nat.reducePow, Int.reduceToNat, Int.reducePow, b3, q4]
    · simp (maxSteps := 2000000) (disch := first | omega | assumption | (simp only [zA]; done) | (simp only [zB] <;> omega) | fail) only [Go.Rx.vi, Go.Rx.vb, Go.Rx.vstr, rxc, rxo, zC, Nat.reduceLeDiff, ↓reduceIte, Nat.reduceEqDiff, Nat.reduceAdd, Nat.reduceMul, Nat.reducePow, Int.reduceToNat, Int.reducePow, sref]
    · simp (maxSteps := 2000000) (disch := first | omega | assumption | (simp only [zA]; done) | (simp only [zB] <;> omega) | fail) only [Go.Rx.vi, Go.Rx.vb, Go.Rx.vstr, rxc, rxo, zC, Nat.reduceLeDiff, ↓reduceIte, Nat.reduceEqDiff, Nat.reduceAdd, Nat.reduceMul, Nat.reducePow, Int.reduceToNat, Int.reducePow, b5, q4]
    · simp (maxSteps := 2000000) (disch := first | omega | assumption | (simp only [zA]; done) | (simp only [zB] <;> omega) | fail) only [Go.Rx.vi, Go.Rx.vb, Go.Rx.vstr, rxc, rxo, zC, Nat.reduceLeDiff, ↓reduceIte, Nat.reduceEqDiff, Nat.reduceAdd, Nat.reduceMul, Nat.reducePow, Int.reduceToNat, Int.reducePow, sref]
    · simp (maxSteps := 2000000) (disch := first | omega | assumption | (simp only [zA]; done) | (simp only [zB] <;> omega) | fail) only [Go.Rx.vi, Go.Rx.vb, Go.Rx.vstr, rxc, rxo, zC, Nat.reduceLeDiff, ↓reduceIte, Nat.reduceEqDiff, Nat.reduceAdd, Nat.reduceMul, Nat.reducePow, Int.reduceToNat, Int.reducePow, rp]
    · simp (maxSteps := 2000000) (disch := first | omega | assumption | (simp only [zA]; done) | (simp only [zB] <;> omega) | fail) only [Go.Rx.vi, Go.Rx.vb, Go.Rx.vstr, rxc, rxo, zC, Nat.reduceLeDiff, ↓reduceIte, Nat.reduceEqDiff, Nat.reduceAdd, Nat.reduceMul, Nat.reducePow, Int.reduceToNat, Int.reducePow, sreg]
    · simp (maxSteps := 2000000) (disch := first | omega | assumption | (simp only [zA]; done) | (simp only [zB] <;> omega) | fail) only [Go.Rx.vi, Go.Rx.vb, Go.Rx.vstr, rxc, rxo, zC, Nat.reduceLeDiff, ↓reduceIte, Nat.reduceEqDiff, Nat.reduceAdd, Nat.reduceMul, Nat.reducePow, Int.reduceToNat, Int.reducePow, rp5]
    · simp (maxSteps := 2000000) (disch := first | omega | assumption | (simp only [zA]; done) | (simp only [zB] <;> omega) | fail) only [Go.Rx.vi, Go.Rx.vb, Go.Rx.vstr, rxc, rxo, zC, Nat.reduceLeDiff, ↓reduceIte, Nat.reduceEqDiff, Nat.reduceAdd, Nat.reduceMul, Nat.reducePow, Int.reduceToNat, Int.reducePow, sreg]
    simp (maxSteps := 2000000) (disch := first | omega | assumption | (simp only [zA]; done) | (simp only [zB] <;> omega) | fail) only [Go.Rx.vi, Go.Rx.vb, Go.Rx.vstr, rxc, rxo, zC, Nat.reduceLeDiff, ↓reduceIte, Nat.reduceEqDiff, Nat.reduceAdd, Nat.reduceMul, Nat.reducePow, Int.reduceToNat, Int.reducePow]
    refine hk _ _ _ ou6 ⟨im6.1, fun j hj => ?_⟩ ((g23.trans g5).trans g6)
    rw [im6.2 j hj]
    constructor
    · rintro ⟨a, ha, hs⟩
      have := Star.le (fun x y => Mt_le p0 x y) hs
      obtain ⟨i, hi, hmt⟩ := (im'.2 a (by omega)).1 ha
      exact ⟨i, hi, Mt_kind.2 (.inr (.inr (.inr (.inr (.inr (.inl ⟨hk6, a, (hd0 f0 _ _).2 hmt, (star0 f0 _ _).2 hs⟩))))))⟩
    · rintro ⟨i, hi, hmt⟩
      rcases Mt_kind.1 hmt with h | h | h | h | h | h | h
      · omega
      · omega
      · omega
      · omega
      · omega
      · obtain ⟨_, a, h3, h4⟩ := h
        have := Star.le (fun x y => Mt_le p0 x y) ((star0 f0 _ _).1 h4)
        exact ⟨a, (im'.2 a (by omega)).2 ⟨i, hi, (hd0 f0 _ _).1 h3⟩, (star0 f0 _ _).1 h4⟩
      · omega
  simp (maxSteps := 2000000) (disch := first | omega | assumption | (simp only [zA]; done) | (simp only [zB] <;> omega) | fail) only [Go.Rx.vi, Go.Rx.vb, Go.Rx.vstr, rxc, rxo, zC, Nat.reduceLeDiff, ↓reduceIte, Nat.reduceEqDiff, Nat.reduceAdd, Nat.reduceMul, Nat.reducePow, Int.reduceToNat, Int.reducePow, R56_26]
  refine WCond_dec (fun hk5 => ?_) (fun hk5 => ?_)
  · obtain ⟨p0, f0, f1, f2⟩ := get0 (by omega)
    simp (maxSteps := 2000000) (disch := first | omega | assumption | (simp only [zA]; done) | (simp only [zB] <;> omega) | fail) only [Go.Rx.vi, Go.Rx.vb, Go.Rx.vstr, rxc, rxo, zC, Nat.reduceLeDiff, ↓reduceIte, Nat.reduceEqDiff, Nat.reduceAdd, Nat.reduceMul, Nat.reducePow, Int.reduceToNat, Int.reducePow, R56_27, b3, q4, rp]
    refine ragain_ok m.mono m.o80 m.f80 m.o79 m.f79 ht (IH p0 f1) (by omega) (f2.gp g23) (hv.gp g23) hl ?_
    intro u' o' h5 ou' im' g5
    simp (maxSteps := 2000000) (disch := first | omega | assumption | (simp only [zA]; done) | (simp only [zB] <;> omega) | fail) only [Go.Rx.vi, Go.Rx.vb, Go.Rx.vstr, rxc, rxo, zC, Nat.reduceLeDiff, ↓reduceIte, Nat.reduceEqDiff, Nat.reduceAdd, Nat.reduceMul, Nat.reducePow, Int.reduceToNat, Int.reducePow]
    refine hk _ _ _ ou' ⟨im'.1, fun j hj => ?_⟩ (g23.trans g5)
    rw [im'.2 j hj]
    constructor
    · rintro ⟨a, ha, hs⟩
      exact ⟨a, ha, Mt_kind.2 (.inr (.inr (.inr (.inr (.inr (.inr ⟨hk5, (star0 f0 _ _).2 hs⟩))))))⟩
    · rintro ⟨i, hi, hmt⟩
      rcases Mt_kind.1 hmt with h | h | h | h | h | h | h
      · omega
      · omega
      · omega
      · omega
      · omega
      · omega
      · exact ⟨i, hi, (star0 f0 _ _).1 h.2⟩
  · simp (maxSteps := 2000000) (disch := first | omega | assumption | (simp only [zA]; done) | (simp only [zB] <;> omega) | fail) only [Go.Rx.vi, Go.Rx.vb, Go.Rx.vstr, rxc, rxo, zC, Nat.reduceLeDiff, ↓reduceIte, Nat.reduceEqDiff, Nat.reduceAdd, Nat.reduceMul, Nat.reducePow, Int.reduceToNat, Int.reducePow, R56_28]
    refine hk _ _ _ oo.sl ⟨by simp, fun j hj => ?_⟩ g23
    rw [rep_false]
    constructor
    · intro h; cases h
    · rintro ⟨i, hi, hmt⟩
      rcases Mt_kind.1 hmt with h | h | h | h | h | h | h
      all_goals omega

theorem whole_ok (m : REndsF M) (hO : M.O 27 = none) (hF : M.F 27 = some A27) {t : List UInt8} (ht : t.length ≤ 100000) {r : RegD} {cs : List Value} {h : Heap} {K : KF} (h1 : 1 ≤ h.next) (hr : RegC h r cs) (hm : r.may = true) (hs : r.size < 1000000)
  (hk : ∀ b h', GrowP h h' → (b = true ↔ Mt t r 0 t.length) → K (.bool b) h') : WF M 27 [.agg ⟨cs⟩, vstr t] h K := by
  rw [WF_eqT 6 hO hF]
  obtain ⟨q1, q2, q3, v, css, q4, q5, q6⟩ := hr.b
  simp (maxSteps := 2000000) (disch := first | omega | assumption | (simp only [zA]; done) | (simp only [zB] <;> omega) | fail) only [Go.Rx.vi, Go.Rx.vb, Go.Rx.vstr, rxc, rxo, zC, Nat.reduceLeDiff, ↓reduceIte, Nat.reduceEqDiff, Nat.reduceAdd, Nat.reduceMul, Nat.reducePow, Int.reduceToNat, Int.reducePow, A27, R27_0, q1]
  obtain ⟨h2, e2, g2, n2, b2⟩ := boxed h cs 48
  rw [e2]
  simp (maxSteps := 2000000) (disch := first | omega | assumption | (simp only [zA]; done) | (simp only [zB] <;> omega) | fail) only [Go.Rx.vi, Go.Rx.vb, Go.Rx.vstr, rxc, rxo, zC, Nat.reduceLeDiff, ↓reduceIte, Nat.reduceEqDiff, Nat.reduceAdd, Nat.reduceMul, Nat.reducePow, Int.reduceToNat, Int.reducePow, R27_1]
  refine WI_makec (by omega) (by omega) (by omega) (by omega) (by omega) (by omega) ?_
  intro vo h3 oo g3 bo
  have n3 := g3.next
  have oo : OwnV h3 4 vo ((List.replicate (t.length + 1) false).map .bool) := by rw [← bools_rep]; simpa using oo
  have ro := oo.sl.r
  simp only [List.length_map, List.length_replicate] at ro
  have olt := oo.1
  simp (maxSteps := 2000000) (disch := first | omega | assumption | (simp only [zA]; done) | (simp only [zB] <;> omega) | fail) only [Go.Rx.vi, Go.Rx.vb, Go.Rx.vstr, rxc, rxo, zC, Nat.reduceLeDiff, ↓reduceIte, Nat.reduceEqDiff, Nat.reduceAdd, Nat.reduceMul, Nat.reducePow, Int.reduceToNat, Int.reducePow, R27_2, ro]
  refine WI_storec oo (by simp) rfl ?_
  intro h4 o4 c4
  have n4 := c4.next
  have g24 : GrowP h2 h4 := g3.chg c4 (by omega)
  have b4 : h4.at h.next = _ := (g24.at_ _ h1 (by omega)).trans b2
  rw [bools_set] at o4
  have hlen : ((List.replicate (t.length + 1) false).set 0 true).length = t.length + 1 := by simp
  simp (maxSteps := 2000000) (disch := first | omega | assumption | (simp only [zA]; done) | (simp only [zB] <;> omega) | fail) only [Go.Rx.vi, Go.Rx.vb, Go.Rx.vstr, rxc, rxo, zC, Nat.reduceLeDiff, ↓reduceIte, Nat.reduceEqDiff, Nat.reduceAdd, Nat.reduceMul, Nat.reducePow, Int.reduceToNat, Int.reducePow, R27_3, b4, q1, cut_all q1]
  refine rends_ok m ht r hm hs (by omega) ((hr.gp g2).gp g24) o4.sl hlen ?_
  intro v' l' h5 bv im g5
  have rb := bv.r
  rw [im.1] at rb
  simp (maxSteps := 2000000) (disch := first | omega | assumption | (simp only [zA]; done) | (simp only [zB] <;> omega) | fail) only [Go.Rx.vi, Go.Rx.vb, Go.Rx.vstr, rxc, rxo, zC, Nat.reduceLeDiff, ↓reduceIte, Nat.reduceEqDiff, Nat.reduceAdd, Nat.reduceMul, Nat.reducePow, Int.reduceToNat, Int.reducePow, rb]
  refine hk _ _ ((g2.trans g24).trans g5) ?_
  rw [im.2 _ (Nat.le_refl _)]
  constructor
  · rintro ⟨i, hi, hmt⟩
    rw [getD_set (by simp)] at hi
    split at hi
    · rename_i h0; rw [← h0] at hmt; exact hmt
    · rw [rep_false] at hi; cases hi
  · intro hmt
    exact ⟨0, by rw [getD_set (by simp), if_pos rfl], hmt⟩
end Go.Rx
