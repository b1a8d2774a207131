/- One step of the abstract heap, one of the world. -/
import Derived.Test.YtabhplelhjcdiaaRxRel
import Derived.Laws.AppendOwn
/- One step of the abstract heap, one of the world. -/
namespace Go.Rx

variable {P : Program} {ρ : Ren} {H : Heap} {w : World}

theorem BR.mono {ρ' : Ren} {l : Loc} {x : Blk} (hle : ρ.le ρ') (h : BR P ρ l w x) : BR P ρ' l w x := by
  cases x with
  | cells cs e rw =>
    obtain ⟨ccs, ce, fr, h1, h2, h3, h4, h5⟩ := h
    exact ⟨ccs, ce, fr, h1, h2, h3, h4, h5.mono hle⟩
  | map es =>
    obtain ⟨ces, h1, h2⟩ := h
    exact ⟨ces, h1, h2.mono hle⟩
theorem BR.world {w' : World} {l : Loc} {x : Blk} (hw : w'.heap[l.blk]? = w.heap[l.blk]?) (h : BR P ρ l w x) : BR P ρ l w' x := by
  cases x with
  | cells cs e rw => simpa only [BR, hw] using h
  | map es => simpa only [BR, hw] using h

/-- A draw turns nothing. -/
theorem Sim.drawn (h : Sim P ρ H w) (n : Nat) : Sim P ρ H { w with drawn := n } :=
  ⟨h.fresh, h.dom, fun b l x h1 h2 => BR.world rfl (h.blks b l x h1 h2), h.excl, h.clean⟩
theorem Stp.drawn (ρ : Ren) (H : Heap) (w : World) (n : Nat) : Stp ρ H w ρ H { w with drawn := n } :=
  ⟨ρ.le_refl, Nat.le_refl _, rfl, rfl, rfl, Nat.le_refl _, fun _ _ _ => rfl, fun _ _ h => h, fun _ _ h => h, fun b l h h' => by rw [h] at h'; cases h'⟩

/-- A block more. -/
theorem Sim.add (h : Sim P ρ H w) (x : Blk) (o : Obj) (l : Loc) (hl : l.blk = w.heap.size) (hb : ∀ ρ', ρ.le ρ' → BR P ρ' l (w.alloc o) x) :
    Sim P (ρ.up H.next l) (H.new x) (w.alloc o) ∧ Stp ρ H w (ρ.up H.next l) (H.new x) (w.alloc o) := by
  have hn : ρ H.next = none := h.fresh _ (Nat.le_refl _)
  have hle : ρ.le (ρ.up H.next l) := Ren.le_up hn
  have hsz : (w.alloc o).heap.size = w.heap.size + 1 := by show (w.heap.push o).size = _; simp
  have old : ∀ c, c < w.heap.size → (w.alloc o).heap[c]? = w.heap[c]? := fun c hc => heap_alloc_old w o c hc
  have isold : ∀ b l', (ρ.up H.next l) b = some l' → b ≠ H.next → ρ b = some l' := fun b l' hb hne => by rwa [Ren.up_ne _ _ hne] at hb
  refine ⟨⟨?_, ?_, ?_, ?_, ?_⟩, ⟨hle, by simp, rfl, rfl, rfl, by omega, fun c hc _ => old c hc, ?_, ?_, ?_⟩⟩
  · intro b hb'
    simp only [Heap.next_new] at hb'
    rw [Ren.up_ne _ _ (by omega)]
    exact h.fresh b (by omega)
  · intro b l' hl'
    by_cases e : b = H.next
    · subst e; rw [Ren.up_same] at hl'; cases hl'; omega
    · have := h.dom b l' (isold b l' hl' e); omega
  · intro b l' y hl' hy
    rw [Heap.at_new] at hy
    by_cases e : b = H.next
    · subst e
      rw [if_pos rfl] at hy; cases hy
      rw [Ren.up_same] at hl'; cases hl'
      exact hb _ hle
    · rw [if_neg (Ne.symm e)] at hy
      have hr := isold b l' hl' e
      exact ((h.blks b l' y hr hy).mono hle).world (old _ (h.dom b l' hr))
  · intro b b' l1 l2 x1 x2 hne h1 h2 hx1 hx2 ho
    rw [Heap.at_new] at hx1 hx2
    by_cases e : b = H.next
    · subst e
      rw [Ren.up_same] at h1; cases h1
      have hr := isold b' l2 h2 (Ne.symm hne)
      have := h.dom b' l2 hr
      omega
    · have hr1 := isold b l1 h1 e
      rw [if_neg (Ne.symm e)] at hx1
      by_cases e' : b' = H.next
      · subst e'
        rw [Ren.up_same] at h2; cases h2
        have := h.dom b l1 hr1
        omega
      · rw [if_neg (Ne.symm e')] at hx2
        exact h.excl b b' l1 l2 x1 x2 hne hr1 (isold b' l2 h2 e') hx1 hx2 ho
  · intro b hb'
    simp only [Heap.next_new] at hb'
    rw [Heap.at_new, if_neg (by omega)]
    exact h.clean b (by omega)
  · rintro c hc ⟨b, l', y, h1, h2, h3, h4⟩
    rw [Heap.at_new] at h2
    by_cases e : b = H.next
    · subst e; rw [Ren.up_same] at h1; cases h1; omega
    · rw [if_neg (Ne.symm e)] at h2
      exact ⟨b, l', y, isold b l' h1 e, h2, h3, h4⟩
  · rintro c hc ⟨b, l', y, h1, h2, h4⟩
    rw [Heap.at_new] at h2
    by_cases e : b = H.next
    · subst e; rw [Ren.up_same] at h1; cases h1; omega
    · rw [if_neg (Ne.symm e)] at h2
      exact ⟨b, l', y, isold b l' h1 e, h2, h4⟩
  · intro b l' h1 h2
    by_cases e : b = H.next
    · omega
    · rw [isold b l' h2 e] at h1; cases h1

/-- A new row. -/
theorem Sim.row (h : Sim P ρ H w) (cs : List Value) (e : TypeId) (rw : Bool) (ccs : Array Value) (ce : TypeId) (hat : VRAt ρ cs ccs 0) :
    Sim P (ρ.up H.next ⟨w.heap.size, 0, ccs.size, P.cellsOf e⟩) (H.new (.cells cs e rw)) (w.alloc (.cells ccs ce)) ∧
    Stp ρ H w (ρ.up H.next ⟨w.heap.size, 0, ccs.size, P.cellsOf e⟩) (H.new (.cells cs e rw)) (w.alloc (.cells ccs ce)) :=
  h.add _ _ _ rfl fun _ hle => ⟨ccs, ce, (0, 0), heap_alloc_new w _, rfl, rfl, fun _ => rfl, hat.mono hle⟩

theorem VRL.at0 {cs : List Value} {cs' : List Value} (h : VRL ρ cs cs') (rest : List Value) : VRAt ρ cs (cs' ++ rest).toArray 0 := fun i v hv => by
  obtain ⟨v', h1, h2⟩ := h.get i v hv
  refine ⟨v', ?_, h2⟩
  have hlt : i < cs'.length := (List.getElem?_eq_some_iff.1 h1).1
  simpa [List.getElem?_append, hlt] using h1

/-- A block that may be written gets other content; nothing else turns. -/
theorem Sim.turn (h : Sim P ρ H w) (b : Nat) (l : Loc) (x y : Blk) (w' : World) (hl : ρ b = some l) (hx : H.at b = some x) (ho : x.own = true)
    (hos : w'.os = w.os) (htape : w'.tape = w.tape) (hout : w'.output = w.output) (hsz : w'.heap.size = w.heap.size)
    (hoth : ∀ c, c ≠ l.blk → w'.heap[c]? = w.heap[c]?) (hy : BR P ρ l w' y) :
    Sim P ρ (H.set b (some y)) w' ∧ Stp ρ H w ρ (H.set b (some y)) w' := by
  refine ⟨⟨h.fresh, fun c lc hc => by rw [hsz]; exact h.dom c lc hc, ?_, ?_, ?_⟩, ⟨ρ.le_refl, Nat.le_refl _, hos, htape, hout, by omega, ?_, ?_, ?_, fun c lc h1 h2 => by rw [h1] at h2; cases h2⟩⟩
  · intro c lc z hc hz
    rw [Heap.at_set] at hz
    by_cases e : b = c
    · subst e
      rw [if_pos rfl] at hz; cases hz
      rw [hl] at hc; cases hc
      exact hy
    · rw [if_neg e] at hz
      refine (h.blks c lc z hc hz).world (hoth _ (Ne.symm ?_))
      exact h.excl b c l lc x z e hl hc hx hz ho
  · intro c d lc ld z z' hne hc hd hz hz' hzo
    rw [Heap.at_set] at hz hz'
    by_cases e : b = c
    · subst e
      rw [if_neg hne] at hz'
      rw [hl] at hc; cases hc
      exact h.excl b d l ld x z' hne hl hd hx hz' ho
    · rw [if_neg e] at hz
      by_cases e' : b = d
      · subst e'
        rw [hl] at hd; cases hd
        exact Ne.symm (h.excl b c l lc x z e hl hc hx hz ho)
      · rw [if_neg e'] at hz'
        exact h.excl c d lc ld z z' hne hc hd hz hz' hzo
  · intro c hc
    simp only [Heap.next_set] at hc
    rw [Heap.at_set]
    by_cases e : b = c
    · subst e; rw [h.fresh b hc] at hl; cases hl
    · rw [if_neg e]; exact h.clean c hc
  · intro c hc hn
    refine hoth c fun e => hn ⟨b, l, x, hl, hx, ho, e.symm⟩
  · rintro c hc ⟨d, ld, z, h1, h2, h3, h4⟩
    rw [Heap.at_set] at h2
    by_cases e : b = d
    · subst e
      exact ⟨b, ld, x, h1, hx, ho, h4⟩
    · rw [if_neg e] at h2
      exact ⟨d, ld, z, h1, h2, h3, h4⟩
  · rintro c hc ⟨d, ld, z, h1, h2, h4⟩
    rw [Heap.at_set] at h2
    by_cases e : b = d
    · subst e
      exact ⟨b, ld, x, h1, hx, h4⟩
    · rw [if_neg e] at h2
      exact ⟨d, ld, z, h1, h2, h4⟩

/-- Giving a block up. -/
theorem Sim.kill (h : Sim P ρ H w) (b : Nat) : Sim P ρ (H.set b none) w ∧ Stp ρ H w ρ (H.set b none) w := by
  have hat : ∀ c x, (H.set b none).at c = some x → H.at c = some x := fun c x hx => by
    rw [Heap.at_set] at hx
    split at hx
    · cases hx
    · exact hx
  exact ⟨⟨h.fresh, h.dom, fun c l x h1 h2 => h.blks c l x h1 (hat c x h2), fun c d lc ld x y hne h1 h2 h3 h4 h5 => h.excl c d lc ld x y hne h1 h2 (hat c x h3) (hat d y h4) h5,
    fun c hc => by
      rw [Heap.at_set]
      split
      · rfl
      · exact h.clean c hc⟩,
    ⟨ρ.le_refl, Nat.le_refl _, rfl, rfl, rfl, Nat.le_refl _, fun _ _ _ => rfl, fun c _ ⟨d, l, x, h1, h2, h3, h4⟩ => ⟨d, l, x, h1, hat d x h2, h3, h4⟩, fun c _ ⟨d, l, x, h1, h2, h4⟩ => ⟨d, l, x, h1, hat d x h2, h4⟩, fun c l h1 h2 => by rw [h1] at h2; cases h2⟩⟩

/-- A block is given up, and a new one lies in its real block. -/
theorem Sim.regrow (h : Sim P ρ H w) (b : Nat) (l l' : Loc) (x y : Blk) (w' : World) (hl : ρ b = some l) (hx : H.at b = some x) (ho : x.own = true) (hblk : l'.blk = l.blk)
    (hos : w'.os = w.os) (htape : w'.tape = w.tape) (hout : w'.output = w.output) (hsz : w'.heap.size = w.heap.size)
    (hoth : ∀ c, c ≠ l.blk → w'.heap[c]? = w.heap[c]?) (hy : ∀ ρ', ρ.le ρ' → BR P ρ' l' w' y) :
    Sim P (ρ.up H.next l') ((H.set b none).new y) w' ∧ Stp ρ H w (ρ.up H.next l') ((H.set b none).new y) w' := by
  have hn : ρ H.next = none := h.fresh _ (Nat.le_refl _)
  have hle : ρ.le (ρ.up H.next l') := Ren.le_up hn
  have isold : ∀ c lc, (ρ.up H.next l') c = some lc → c ≠ H.next → ρ c = some lc := fun c lc hb hne => by rwa [Ren.up_ne _ _ hne] at hb
  have hat : ∀ c z, ((H.set b none).new y).at c = some z → (c = H.next ∧ z = y) ∨ (c ≠ H.next ∧ c ≠ b ∧ H.at c = some z) := fun c z hz => by
    rw [Heap.at_new, Heap.next_set] at hz
    by_cases e : H.next = c
    · rw [if_pos e] at hz; cases hz; exact .inl ⟨e.symm, rfl⟩
    · rw [if_neg e, Heap.at_set] at hz
      by_cases e' : b = c
      · rw [if_pos e'] at hz; cases hz
      · rw [if_neg e'] at hz; exact .inr ⟨Ne.symm e, Ne.symm e', hz⟩
  refine ⟨⟨?_, ?_, ?_, ?_, ?_⟩, ⟨hle, by simp, hos, htape, hout, by omega, ?_, ?_, ?_, ?_⟩⟩
  · intro c hc
    simp only [Heap.next_new, Heap.next_set] at hc
    rw [Ren.up_ne _ _ (by omega)]
    exact h.fresh c (by omega)
  · intro c lc hc
    rw [hsz]
    by_cases e : c = H.next
    · subst e; rw [Ren.up_same] at hc; cases hc; rw [hblk]; exact h.dom b l hl
    · exact h.dom c lc (isold c lc hc e)
  · intro c lc z hc hz
    rcases hat c z hz with ⟨rfl, rfl⟩ | ⟨h1, h2, h3⟩
    · rw [Ren.up_same] at hc; cases hc; exact hy _ hle
    · have hr := isold c lc hc h1
      exact ((h.blks c lc z hr h3).mono hle).world (hoth _ (Ne.symm (h.excl b c l lc x z (Ne.symm h2) hl hr hx h3 ho)))
  · intro c d lc ld z z' hne hc hd hz hz' hzo
    rcases hat c z hz with ⟨rfl, rfl⟩ | ⟨h1, h2, h3⟩
    · rcases hat d z' hz' with ⟨rfl, rfl⟩ | ⟨k1, k2, k3⟩
      · exact absurd rfl hne
      · rw [Ren.up_same] at hc; cases hc
        rw [hblk]
        exact h.excl b d l ld x z' (Ne.symm k2) hl (isold d ld hd k1) hx k3 ho
    · rcases hat d z' hz' with ⟨rfl, rfl⟩ | ⟨k1, k2, k3⟩
      · rw [Ren.up_same] at hd; cases hd
        rw [hblk]
        exact Ne.symm (h.excl b c l lc x z (Ne.symm h2) hl (isold c lc hc h1) hx h3 ho)
      · exact h.excl c d lc ld z z' hne (isold c lc hc h1) (isold d ld hd k1) h3 k3 hzo
  · intro c hc
    simp only [Heap.next_new, Heap.next_set] at hc
    rw [Heap.at_new, Heap.next_set, if_neg (by omega), Heap.at_set]
    split
    · rfl
    · exact h.clean c (by omega)
  · intro c hc hnn
    exact hoth c fun e => hnn ⟨b, l, x, hl, hx, ho, e.symm⟩
  · rintro c hc ⟨d, ld, z, h1, h2, h3, h4⟩
    rcases hat d z h2 with ⟨rfl, rfl⟩ | ⟨k1, k2, k3⟩
    · rw [Ren.up_same] at h1; cases h1
      exact ⟨b, l, x, hl, hx, ho, by rw [← hblk]; exact h4⟩
    · exact ⟨d, ld, z, isold d ld h1 k1, k3, h3, h4⟩
  · rintro c hc ⟨d, ld, z, h1, h2, h4⟩
    rcases hat d z h2 with ⟨rfl, rfl⟩ | ⟨k1, k2, k3⟩
    · rw [Ren.up_same] at h1; cases h1
      exact ⟨b, l, x, hl, hx, by rw [← hblk]; exact h4⟩
    · exact ⟨d, ld, z, isold d ld h1 k1, k3, h4⟩
  · intro c lc h1 h2
    by_cases e : c = H.next
    · omega
    · rw [isold c lc h2 e] at h1; cases h1

end Go.Rx
