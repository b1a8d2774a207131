/- Regions whose order is open: the world between two operations. -/
import Derived.Test.YtabhplelhjcdiaaRxLook
/- Regions whose order is open: the world between two operations. -/
set_option linter.unusedVariables false
set_option linter.unusedSimpArgs false
namespace Go.Rx

def cutR (ρ : Ren) (N : Nat) : Ren := fun b => if b < N then ρ b else none
theorem cutR_some {ρ : Ren} {N b : Nat} {l : Loc} (h : cutR ρ N b = some l) : b < N ∧ ρ b = some l := by
  unfold cutR at h
  split at h
  · rename_i hb; exact ⟨hb, h⟩
  · cases h
theorem cutR_lt {ρ : Ren} {N b : Nat} (h : b < N) : cutR ρ N b = ρ b := by simp [cutR, h]
theorem cutR_ge {ρ : Ren} {N b : Nat} (h : N ≤ b) : cutR ρ N b = none := by simp [cutR]; omega
theorem cutR_le (ρ : Ren) {N M : Nat} (h : N ≤ M) : (cutR ρ N).le (cutR ρ M) := fun b l hb => by
  obtain ⟨h1, h2⟩ := cutR_some hb
  rw [cutR_lt (by omega)]; exact h2
theorem cutR_le_self (ρ : Ren) (N : Nat) : (cutR ρ N).le ρ := fun b l hb => (cutR_some hb).2
theorem cutR_mono {ρ ρ' : Ren} (h : ρ.le ρ') (N : Nat) : (cutR ρ N).le (cutR ρ' N) := fun b l hb => by
  obtain ⟨h1, h2⟩ := cutR_some hb
  rw [cutR_lt h1]; exact h b l h2

section
variable {P : Program} {n : Nat} {Hs : Nat → Heap} {srt : Nat → Nat} {ρ0 ρ : Ren} {w0 w : World} {L : Nat → Prop} {m0 : Nat}

def Mk (n : Nat) (Hs : Nat → Heap) (srt : Nat → Nat) (i : Nat) (x : Blk) : Prop := i < n ∧ srt i = 2 ∧ Hs (i + 1) = (Hs i).new x ∧ x.own = true

/-- The world, when the operations L have been carried out, and of the writers those ahead of m0. -/
structure Wst (P : Program) (n : Nat) (Hs : Nat → Heap) (srt : Nat → Nat) (ρ0 : Ren) (w0 : World) (L : Nat → Prop) (ρ : Ren) (w : World) (m0 : Nat) : Prop where
  le : m0 ≤ n
  j1 : Sim P (cutR ρ (Hs m0).next) (Hs m0) w
  alloc : ∀ b l, ρ b = some l → b < (Hs m0).next ∨ ∃ i x, L i ∧ m0 ≤ i ∧ Mk n Hs srt i x ∧ b = (Hs i).next
  j2 : ∀ i x l, L i → m0 ≤ i → Mk n Hs srt i x → ρ (Hs i).next = some l → BR P (cutR ρ ((Hs i).next + 1)) l w x ∧ l.blk < w.heap.size ∧ w0.heap.size ≤ l.blk ∧ ¬ Live (cutR ρ (Hs m0).next) (Hs m0) l.blk
  apart : ∀ i i' x x' l l', L i → L i' → m0 ≤ i → m0 ≤ i' → i ≠ i' → Mk n Hs srt i x → Mk n Hs srt i' x' → ρ (Hs i).next = some l → ρ (Hs i').next = some l' → l.blk ≠ l'.blk
  stp : Stp ρ0 (Hs 0) w0 (cutR ρ (Hs m0).next) (Hs m0) w

def Mono (n : Nat) (Hs : Nat → Heap) : Prop := ∀ i j, i ≤ j → j ≤ n → (Hs i).next ≤ (Hs j).next

theorem Mk.lt (hm : Mono n Hs) {i j : Nat} {x : Blk} (h : Mk n Hs srt i x) (hij : i < j) (hj : j ≤ n) : (Hs i).next + 1 ≤ (Hs j).next := by
  have := hm (i + 1) j hij hj
  rw [h.2.2.1] at this
  simpa using this
theorem Mk.inj (hm : Mono n Hs) {i j : Nat} {x y : Blk} (h : Mk n Hs srt i x) (h' : Mk n Hs srt j y) (he : (Hs i).next = (Hs j).next) : i = j := by
  rcases Nat.lt_trichotomy i j with h1 | h1 | h1
  · have := h.lt hm h1 (Nat.le_of_lt h'.1); omega
  · exact h1
  · have := h'.lt hm h1 (Nat.le_of_lt h.1); omega

/-- All that is known of where blocks lie. -/
theorem Wst.dom (h : Wst P n Hs srt ρ0 w0 L ρ w m0) {b : Nat} {l : Loc} (hb : ρ b = some l) : l.blk < w.heap.size := by
  rcases h.alloc b l hb with h1 | ⟨i, x, h1, h2, h3, rfl⟩
  · exact h.j1.dom b l (by rw [cutR_lt h1]; exact hb)
  · exact (h.j2 i x l h1 h2 h3 hb).2.1

/-- One step on in the text, where it is no writer's. -/
theorem Wst.next (hm : Mono n Hs) (h : Wst P n Hs srt ρ0 w0 L ρ w m0) (hlt : m0 < n) (hstep : Hs (m0 + 1) = Hs m0 ∨ ∃ x, Mk n Hs srt m0 x) : Wst P n Hs srt ρ0 w0 L ρ w (m0 + 1) := by
  rcases hstep with hstep | ⟨x, hmk⟩
  · have hno : ∀ x, ¬ Mk n Hs srt m0 x := fun x hx => by
      have := hx.lt hm (Nat.lt_succ_self m0) hlt
      rw [hstep] at this
      omega
    refine ⟨hlt, by rw [hstep]; exact h.j1, ?_, ?_, ?_, by rw [hstep]; exact h.stp⟩
    · intro b l hb
      rcases h.alloc b l hb with h1 | ⟨i, x, h1, h2, h3, h4⟩
      · left; rw [hstep]; exact h1
      · right
        refine ⟨i, x, h1, ?_, h3, h4⟩
        rcases Nat.lt_or_ge m0 i with hi | hi
        · exact hi
        · have : i = m0 := by omega
          subst this
          exact absurd h3 (hno x)
    · intro i x l h1 h2 h3 h4
      rw [hstep]
      exact h.j2 i x l h1 (by omega) h3 h4
    · intro i i' x x' l l' h1 h1' h2 h2'
      exact h.apart i i' x x' l l' h1 h1' (by omega) (by omega)
  · have hH := hmk.2.2.1
    have hnx : (Hs (m0 + 1)).next = (Hs m0).next + 1 := by rw [hH]; rfl
    -- the block that it made
    have hnew : ∀ l, ρ (Hs m0).next = some l → L m0 := by
      intro l hl
      rcases h.alloc _ l hl with h1 | ⟨i, y, h1, h2, h3, h4⟩
      · omega
      · have := hmk.inj hm h3 h4
        subst this
        exact h1
    have hmono : (cutR ρ (Hs m0).next).le (cutR ρ ((Hs m0).next + 1)) := cutR_le ρ (by omega)
    have hlive : ∀ c, Live (cutR ρ ((Hs m0).next + 1)) (Hs (m0 + 1)) c → Live (cutR ρ (Hs m0).next) (Hs m0) c ∨ ∃ l, ρ (Hs m0).next = some l ∧ l.blk = c := by
      rintro c ⟨b, l, y, h1, h2, h3⟩
      obtain ⟨h4, h5⟩ := cutR_some h1
      by_cases hb : b = (Hs m0).next
      · subst hb; exact .inr ⟨l, h5, h3⟩
      · left
        rw [hH, Heap.at_new, if_neg (Ne.symm hb)] at h2
        exact ⟨b, l, y, by rw [cutR_lt (by omega)]; exact h5, h2, h3⟩
    refine ⟨hlt, ?_, ?_, ?_, ?_, ?_⟩
    · rw [hnx]
      refine ⟨fun b hb => cutR_ge (by rw [← hnx]; exact hb), fun b l hb => h.dom (cutR_some hb).2, ?_, ?_, ?_⟩
      · intro b l y hb hy
        obtain ⟨h1, h2⟩ := cutR_some hb
        rw [hH, Heap.at_new] at hy
        by_cases e : b = (Hs m0).next
        · subst e
          rw [if_pos rfl] at hy; cases hy
          exact (h.j2 m0 _ l (hnew l h2) (Nat.le_refl _) hmk h2).1
        · rw [if_neg (Ne.symm e)] at hy
          exact (h.j1.blks b l y (by rw [cutR_lt (by omega)]; exact h2) hy).mono hmono
      · intro b c l l' y y' hne hb hc hy hy' ho
        obtain ⟨h1, h2⟩ := cutR_some hb
        obtain ⟨h3, h4⟩ := cutR_some hc
        rw [hH, Heap.at_new] at hy hy'
        by_cases e : b = (Hs m0).next
        · subst e
          rw [if_neg hne] at hy'
          have hl := (h.j2 m0 x l (hnew l h2) (Nat.le_refl _) hmk h2).2.2.2
          intro heq
          exact hl ⟨c, l', y', by rw [cutR_lt (by omega)]; exact h4, hy', heq.symm⟩
        · rw [if_neg (Ne.symm e)] at hy
          by_cases e' : c = (Hs m0).next
          · subst e'
            have hl := (h.j2 m0 x l' (hnew l' h4) (Nat.le_refl _) hmk h4).2.2.2
            intro heq
            exact hl ⟨b, l, y, by rw [cutR_lt (by omega)]; exact h2, hy, heq⟩
          · rw [if_neg (Ne.symm e')] at hy'
            exact h.j1.excl b c l l' y y' hne (by rw [cutR_lt (by omega)]; exact h2) (by rw [cutR_lt (by omega)]; exact h4) hy hy' ho
      · intro b hb
        rw [hH, Heap.at_new, if_neg (by omega)]
        exact h.j1.clean b (by omega)
    · intro b l hb
      rcases h.alloc b l hb with h1 | ⟨i, y, h1, h2, h3, h4⟩
      · left; omega
      · rcases Nat.lt_or_ge m0 i with hi | hi
        · exact .inr ⟨i, y, h1, hi, h3, h4⟩
        · have : i = m0 := by omega
          subst this
          left; omega
    · intro i y l h1 h2 h3 h4
      obtain ⟨q1, q2, q3, q4⟩ := h.j2 i y l h1 (by omega) h3 h4
      refine ⟨q1, q2, q3, fun hl => ?_⟩
      rw [hnx] at hl
      rcases hlive _ hl with hl | ⟨l', h5, h6⟩
      · exact q4 hl
      · exact h.apart m0 i x y l' l (hnew l' h5) h1 (Nat.le_refl _) (by omega) (by omega) hmk h3 h5 h4 h6
    · intro i i' y y' l l' h1 h1' h2 h2'
      exact h.apart i i' y y' l l' h1 h1' (by omega) (by omega)
    · rw [hnx]
      refine ⟨Ren.le_trans h.stp.le hmono, by rw [hnx]; have := h.stp.next; omega, h.stp.os, h.stp.tape, h.stp.output, h.stp.size, h.stp.frame, ?_, ?_, ?_⟩
      · rintro c hc ⟨b, l, y, h1, h2, h3, h4⟩
        obtain ⟨h5, h6⟩ := cutR_some h1
        by_cases e : b = (Hs m0).next
        · subst e
          have := (h.j2 m0 x l (hnew l h6) (Nat.le_refl _) hmk h6).2.2.1
          omega
        · rw [hH, Heap.at_new, if_neg (Ne.symm e)] at h2
          exact h.stp.own c hc ⟨b, l, y, by rw [cutR_lt (by omega)]; exact h6, h2, h3, h4⟩
      · intro c hc hl
        rcases hlive c hl with hl | ⟨l, h5, h6⟩
        · exact h.stp.live c hc hl
        · have := (h.j2 m0 x l (hnew l h5) (Nat.le_refl _) hmk h5).2.2.1
          omega
      · intro b l h1 h2
        obtain ⟨h3, h4⟩ := cutR_some h2
        by_cases e : b = (Hs m0).next
        · have := h.stp.next; omega
        · exact h.stp.new b l h1 (by rw [cutR_lt (by omega)]; exact h4)

/-- On in the text to where the next writer stands. -/
theorem Wst.window (hm : Mono n Hs) : ∀ {m m0 : Nat}, Wst P n Hs srt ρ0 w0 L ρ w m0 → m0 ≤ m → m ≤ n → (∀ i, m0 ≤ i → i < m → Hs (i + 1) = Hs i ∨ ∃ x, Mk n Hs srt i x) → Wst P n Hs srt ρ0 w0 L ρ w m := by
  intro m
  induction m with
  | zero => intro m0 h h1 h2 h3; have : m0 = 0 := by omega
            subst this; exact h
  | succ m ih =>
    intro m0 h h1 h2 h3
    by_cases e : m0 = m + 1
    · subst e; exact h
    · exact (ih h (by omega) (by omega) fun i hi hi' => h3 i hi (by omega)).next hm (by omega) (h3 m (by omega) (by omega))

/-- What was made is made known. -/
theorem Wst.made (hm : Mono n Hs) (h : Wst P n Hs srt ρ0 w0 L ρ w m0) {j : Nat} {x : Blk} (hj : m0 ≤ j) (hL : ¬ L j) (hmk : Mk n Hs srt j x) {ρ' : Ren} {w' : World}
    (hsim : Sim P ρ' (Heap.new ⟨(Hs j).next, .nil⟩ x) w') (hstp : Stp (cutR ρ (Hs j).next) ⟨(Hs j).next, .nil⟩ w ρ' (Heap.new ⟨(Hs j).next, .nil⟩ x) w') :
    ∃ ρ1 : Ren, ρ.le ρ1 ∧ cutR ρ1 ((Hs j).next + 1) = ρ' ∧ Wst P n Hs srt ρ0 w0 (fun i => i = j ∨ L i) ρ1 w' m0 := by
  have hjn := hmk.1
  have hlow := hm m0 j hj (Nat.le_of_lt hjn)
  have hnone : ρ (Hs j).next = none := by
    cases hq : ρ (Hs j).next with
    | none => rfl
    | some l =>
      rcases h.alloc _ l hq with h1 | ⟨i, y, h1, h2, h3, h4⟩
      · omega
      · have := hmk.inj hm h3 h4
        subst this
        exact absurd h1 hL
  have hnoown : ∀ c, ¬ Own (cutR ρ (Hs j).next) ⟨(Hs j).next, .nil⟩ c := by
    rintro c ⟨b, l, y, h1, h2, _⟩
    cases h2
  have hheap : ∀ c, c < w.heap.size → w'.heap[c]? = w.heap[c]? := fun c hc => hstp.frame c hc (hnoown c)
  have hpre : ∀ b, b < (Hs j).next → ρ' b = ρ b := by
    intro b hb
    cases hq : ρ b with
    | some l => exact hstp.le b l (by rw [cutR_lt hb]; exact hq)
    | none =>
      cases hq' : ρ' b with
      | none => rfl
      | some l =>
        have h3 : (Hs j).next ≤ b := hstp.new b l (by rw [cutR_lt hb]; exact hq) hq'
        omega
  refine ⟨fun c => if c = (Hs j).next then ρ' c else ρ c, ?_, ?_, ?_⟩
  · intro b l hb
    show (if b = (Hs j).next then ρ' b else ρ b) = some l
    rw [if_neg (fun e => by subst e; rw [hnone] at hb; cases hb)]
    exact hb
  · funext b
    by_cases hb : b < (Hs j).next + 1
    · rw [cutR_lt hb]
      show (if b = (Hs j).next then ρ' b else ρ b) = ρ' b
      by_cases e : b = (Hs j).next
      · rw [if_pos e]
      · rw [if_neg e, hpre b (by omega)]
    · rw [cutR_ge (by omega)]
      exact (hsim.fresh b (by simp; omega)).symm
  · have hle : ρ.le (fun c => if c = (Hs j).next then ρ' c else ρ c) := by
      intro b l hb
      show (if b = (Hs j).next then ρ' b else ρ b) = some l
      rw [if_neg (fun e => by subst e; rw [hnone] at hb; cases hb)]
      exact hb
    have hcut : ∀ N, N ≤ (Hs j).next → cutR (fun c => if c = (Hs j).next then ρ' c else ρ c) N = cutR ρ N := by
      intro N hN
      funext b
      by_cases hb : b < N
      · rw [cutR_lt hb, cutR_lt hb, if_neg (by omega)]
      · rw [cutR_ge (by omega), cutR_ge (by omega)]
    have hjn1 : cutR (fun c => if c = (Hs j).next then ρ' c else ρ c) ((Hs j).next + 1) = ρ' := by
      funext b
      by_cases hb : b < (Hs j).next + 1
      · rw [cutR_lt hb]
        show (if b = (Hs j).next then ρ' b else ρ b) = ρ' b
        by_cases e : b = (Hs j).next
        · rw [if_pos e]
        · rw [if_neg e, hpre b (by omega)]
      · rw [cutR_ge (by omega)]
        exact (hsim.fresh b (by simp; omega)).symm
    -- the new block lies in a new place
    have hfar : ∀ l, ρ' (Hs j).next = some l → w.heap.size ≤ l.blk := by
      intro l hl
      rcases Nat.lt_or_ge l.blk w.heap.size with hlt | hge
      · refine absurd (hstp.own l.blk hlt ⟨(Hs j).next, l, x, hl, ?_, hmk.2.2.2, rfl⟩) (hnoown _)
        rw [Heap.at_new, if_pos rfl]
      · exact hge
    refine ⟨h.le, ?_, ?_, ?_, ?_, ?_⟩
    · rw [hcut _ hlow]
      exact ⟨h.j1.fresh, fun b l hb => Nat.lt_of_lt_of_le (h.j1.dom b l hb) hstp.size, fun b l y hb hy => (h.j1.blks b l y hb hy).world (hheap _ (h.j1.dom b l hb)), h.j1.excl, h.j1.clean⟩
    · intro b l hb
      have hb : (if b = (Hs j).next then ρ' b else ρ b) = some l := hb
      by_cases e : b = (Hs j).next
      · exact .inr ⟨j, x, .inl rfl, hj, hmk, e⟩
      · rw [if_neg e] at hb
        rcases h.alloc b l hb with h1 | ⟨i, y, h1, h2, h3, h4⟩
        · exact .inl h1
        · exact .inr ⟨i, y, .inr h1, h2, h3, h4⟩
    · intro i y l h1 h2 h3 h4
      have h4 : (if (Hs i).next = (Hs j).next then ρ' (Hs i).next else ρ (Hs i).next) = some l := h4
      rw [hcut _ hlow]
      by_cases e : i = j
      · subst e
        rw [if_pos rfl] at h4
        have hxy : y = x := by
          have e1 := hmk.2.2.1
          have e2 := h3.2.2.1
          rw [e1] at e2
          have := congrArg (fun K => Heap.at K (Hs i).next) e2
          simp only [Heap.at_new, if_pos] at this
          cases this
          rfl
        subst hxy
        have hat : (Heap.new ⟨(Hs i).next, .nil⟩ y).at (Hs i).next = some y := by rw [Heap.at_new, if_pos rfl]
        refine ⟨?_, hsim.dom _ l h4, Nat.le_trans h.stp.size (hfar l h4), fun hl => ?_⟩
        · rw [hjn1]; exact hsim.blks _ l y h4 hat
        · obtain ⟨b, l', z, q1, q2, q3⟩ := hl
          have := h.j1.dom b l' q1
          have := hfar l h4
          omega
      · have hne : ¬ (Hs i).next = (Hs j).next := fun he => e (h3.inj hm hmk he)
        rw [if_neg hne] at h4
        rcases h1 with h1 | h1
        · exact absurd h1 e
        · obtain ⟨q1, q2, q3, q4⟩ := h.j2 i y l h1 h2 h3 h4
          exact ⟨(q1.mono (cutR_mono hle _)).world (hheap _ q2), Nat.lt_of_lt_of_le q2 hstp.size, q3, q4⟩
    · intro i i' y y' l l' h1 h1' h2 h2' hne h3 h3' h40 h40'
      have h4 : (if (Hs i).next = (Hs j).next then ρ' (Hs i).next else ρ (Hs i).next) = some l := h40
      have h4' : (if (Hs i').next = (Hs j).next then ρ' (Hs i').next else ρ (Hs i').next) = some l' := h40'
      clear h40 h40'
      by_cases e : i = j
      · subst e
        have hne' : ¬ (Hs i').next = (Hs i).next := fun he => hne (h3'.inj hm hmk he).symm
        rw [if_pos rfl] at h4
        rw [if_neg hne'] at h4'
        rcases h1' with h1' | h1'
        · exact absurd h1'.symm hne
        · have := (h.j2 i' y' l' h1' h2' h3' h4').2.1
          have := hfar l h4
          omega
      · have hn1 : ¬ (Hs i).next = (Hs j).next := fun he => e (h3.inj hm hmk he)
        rw [if_neg hn1] at h4
        rcases h1 with h1 | h1
        · exact absurd h1 e
        · by_cases e' : i' = j
          · subst e'
            rw [if_pos rfl] at h4'
            have := (h.j2 i y l h1 h2 h3 h4).2.1
            have := hfar l' h4'
            omega
          · have hn2 : ¬ (Hs i').next = (Hs j).next := fun he => e' (h3'.inj hm hmk he)
            rw [if_neg hn2] at h4'
            rcases h1' with h1' | h1'
            · exact absurd h1' e'
            · exact h.apart i i' y y' l l' h1 h1' h2 h2' hne h3 h3' h4 h4'
    · rw [hcut _ hlow]
      exact ⟨h.stp.le, h.stp.next, hstp.os.trans h.stp.os, hstp.tape.trans h.stp.tape, hstp.output.trans h.stp.output, Nat.le_trans h.stp.size hstp.size, fun c hc hn => (hheap c (Nat.lt_of_lt_of_le hc h.stp.size)).trans (h.stp.frame c hc hn), h.stp.own, h.stp.live, h.stp.new⟩

/-- A writer, when its turn has come. -/
theorem Wst.wrote (hm : Mono n Hs) {j : Nat} (h : Wst P n Hs srt ρ0 w0 L ρ w j) (hjn : j < n) (hsrt : srt j ≠ 2) {ρ' : Ren} {w' : World}
    (hsim : Sim P ρ' (Hs (j + 1)) w') (hstp : Stp (cutR ρ (Hs j).next) (Hs j) w ρ' (Hs (j + 1)) w') :
    ∃ ρ1 : Ren, ρ.le ρ1 ∧ cutR ρ1 (Hs (j + 1)).next = ρ' ∧ Wst P n Hs srt ρ0 w0 (fun i => i = j ∨ L i) ρ1 w' (j + 1) := by
  have hN := hm j (j + 1) (by omega) hjn
  have hnone : ∀ b, (Hs j).next ≤ b → b < (Hs (j + 1)).next → ρ b = none := by
    intro b h1 h2
    cases hq : ρ b with
    | none => rfl
    | some l =>
      rcases h.alloc b l hq with h3 | ⟨i, y, h3, h4, h5, h6⟩
      · omega
      · have : i ≠ j := fun e => by subst e; exact hsrt h5.2.1
        have := hm (j + 1) i (by omega) (Nat.le_of_lt h5.1)
        omega
  have hpre : ∀ b, b < (Hs j).next → ρ' b = ρ b := by
    intro b hb
    cases hq : ρ b with
    | some l => exact hstp.le b l (by rw [cutR_lt hb]; exact hq)
    | none =>
      cases hq' : ρ' b with
      | none => rfl
      | some l =>
        have h3 : (Hs j).next ≤ b := hstp.new b l (by rw [cutR_lt hb]; exact hq) hq'
        omega
  have hle : ρ.le (fun c => if c < (Hs (j + 1)).next then ρ' c else ρ c) := by
    intro b l hb
    show (if b < (Hs (j + 1)).next then ρ' b else ρ b) = some l
    by_cases e : b < (Hs (j + 1)).next
    · rw [if_pos e]
      rcases Nat.lt_or_ge b (Hs j).next with h1 | h1
      · rw [hpre b h1]; exact hb
      · rw [hnone b h1 e] at hb; cases hb
    · rw [if_neg e]; exact hb
  have hcut : cutR (fun c => if c < (Hs (j + 1)).next then ρ' c else ρ c) (Hs (j + 1)).next = ρ' := by
    funext b
    by_cases hb : b < (Hs (j + 1)).next
    · rw [cutR_lt hb, if_pos hb]
    · rw [cutR_ge (by omega)]
      exact (hsim.fresh b (by omega)).symm
  refine ⟨_, hle, hcut, hjn, by rw [hcut]; exact hsim, ?_, ?_, ?_, ?_⟩
  · intro b l hb
    have hb : (if b < (Hs (j + 1)).next then ρ' b else ρ b) = some l := hb
    by_cases e : b < (Hs (j + 1)).next
    · exact .inl e
    · rw [if_neg e] at hb
      rcases h.alloc b l hb with h1 | ⟨i, y, h1, h2, h3, h4⟩
      · omega
      · have : i ≠ j := fun e => by subst e; exact hsrt h3.2.1
        exact .inr ⟨i, y, .inr h1, by omega, h3, h4⟩
  · intro i y l h1 h2 h3 h4
    have h4 : (if (Hs i).next < (Hs (j + 1)).next then ρ' (Hs i).next else ρ (Hs i).next) = some l := h4
    have hge := hm (j + 1) i h2 (Nat.le_of_lt h3.1)
    rw [if_neg (by omega)] at h4
    rcases h1 with h1 | h1
    · omega
    · obtain ⟨q1, q2, q3, q4⟩ := h.j2 i y l h1 (by omega) h3 h4
      have hno : ¬ Own (cutR ρ (Hs j).next) (Hs j) l.blk := fun ⟨b, l', z, a1, a2, _, a4⟩ => q4 ⟨b, l', z, a1, a2, a4⟩
      refine ⟨(q1.mono (cutR_mono hle _)).world (hstp.frame _ q2 hno), Nat.lt_of_lt_of_le q2 hstp.size, q3, fun hl => ?_⟩
      rw [hcut] at hl
      exact q4 (hstp.live _ q2 hl)
  · intro i i' y y' l l' h1 h1' h2 h2' hne h3 h3' h4 h4'
    have h4 : (if (Hs i).next < (Hs (j + 1)).next then ρ' (Hs i).next else ρ (Hs i).next) = some l := h4
    have h4' : (if (Hs i').next < (Hs (j + 1)).next then ρ' (Hs i').next else ρ (Hs i').next) = some l' := h4'
    have hge := hm (j + 1) i h2 (Nat.le_of_lt h3.1)
    have hge' := hm (j + 1) i' h2' (Nat.le_of_lt h3'.1)
    rw [if_neg (by omega)] at h4 h4'
    rcases h1 with h1 | h1
    · omega
    · rcases h1' with h1' | h1'
      · omega
      · exact h.apart i i' y y' l l' h1 h1' (by omega) (by omega) hne h3 h3' h4 h4'
  · rw [hcut]
    exact h.stp.trans hstp

/-- Others may have been carried out too, if they made nothing. -/
theorem Wst.more (h : Wst P n Hs srt ρ0 w0 L ρ w m0) {L' : Nat → Prop} (hLL : ∀ i, L i → L' i) (hno : ∀ i x, L' i → ¬ L i → m0 ≤ i → Mk n Hs srt i x → ρ (Hs i).next = none) : Wst P n Hs srt ρ0 w0 L' ρ w m0 := by
  have back : ∀ i x l, L' i → m0 ≤ i → Mk n Hs srt i x → ρ (Hs i).next = some l → L i := by
    intro i x l h1 h2 h3 h4
    by_cases hL : L i
    · exact hL
    · rw [hno i x h1 hL h2 h3] at h4; cases h4
  refine ⟨h.le, h.j1, ?_, ?_, ?_, h.stp⟩
  · intro b l hb
    rcases h.alloc b l hb with h1 | ⟨i, x, h1, h2, h3, h4⟩
    · exact .inl h1
    · exact .inr ⟨i, x, hLL i h1, h2, h3, h4⟩
  · intro i x l h1 h2 h3 h4
    exact h.j2 i x l (back i x l h1 h2 h3 h4) h2 h3 h4
  · intro i i' x x' l l' h1 h1' h2 h2' hne h3 h3' h4 h4'
    exact h.apart i i' x x' l l' (back i x l h1 h2 h3 h4) (back i' x' l' h1' h2' h3' h4') h2 h2' hne h3 h3' h4 h4'
end

end Go.Rx
