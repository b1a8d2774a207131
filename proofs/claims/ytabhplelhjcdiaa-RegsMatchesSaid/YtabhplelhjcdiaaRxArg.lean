/- What a statement hands in, as abstract blocks that nobody writes. -/
import Derived.Test.YtabhplelhjcdiaaRxRow
import Derived.OpenShut
/- What a statement hands in, as abstract blocks that nobody writes. -/
set_option linter.unusedVariables false
set_option linter.unusedSimpArgs false
namespace Go.Rx

variable {P : Program}

/-! ### Heaps that only grow -/
def Grow (h h' : Heap) : Prop := h.next ≤ h'.next ∧ ∀ b, b < h.next → h'.at b = h.at b
theorem Grow.refl (h : Heap) : Grow h h := ⟨Nat.le_refl _, fun _ _ => rfl⟩
theorem Grow.trans {a b c : Heap} (h : Grow a b) (h' : Grow b c) : Grow a c := ⟨Nat.le_trans h.1 h'.1, fun x hx => by rw [h'.2 x (Nat.lt_of_lt_of_le hx h.1)]; exact h.2 x hx⟩
theorem Grow.new {h h' : Heap} {x : Blk} (g : Grow h h') : Grow h (h'.new x) := ⟨by rw [Heap.next_new]; have := g.1; omega, fun b hb => by rw [at_new_lt (by have := g.1; omega)]; exact g.2 b hb⟩
theorem Grow.new1 {h h' : Heap} {x : Blk} (g : Grow (h.new x) h') : Grow h h' := ((Grow.refl h).new).trans g
theorem Grow.set {h h' : Heap} {b : Nat} {x : Option Blk} (g : Grow h h') (hb : h.next ≤ b) : Grow h (h'.set b x) := ⟨g.1, fun c hc => by rw [at_set_ne (by omega)]; exact g.2 c hc⟩

def NoOwn (ρ : Ren) (H : Heap) : Prop := ∀ c, ¬ Own ρ H c

abbrev Repr (α : Type) := Heap → List Value → α → Prop
def RMono {α : Type} (R : Repr α) : Prop := ∀ H H' cs x, Grow H H' → R H cs x → R H' cs x

/-- Cells of a world that can be had. -/
def Rd1 (P : Program) (W : World) {α : Type} (R : Repr α) (cs : List Value) (x : α) : Prop :=
  ∀ ρ H, Sim P ρ H W → NoOwn ρ H → 1 ≤ H.next → ∃ cs' ρ' H', Sim P ρ' H' W ∧ NoOwn ρ' H' ∧ ρ.le ρ' ∧ Grow H H' ∧ VRL ρ' cs' cs ∧ R H' cs' x

mutual
def bulk {H : Type} : DataW H → Nat
  | .lit (.string bytes) => bytes.length + 1
  | .lit _ => 1
  | .nil => 1
  | .ptr d => bulk d + 1
  | .slice elems spare => bulkAll elems + bulkAll spare + 1
  | .agg parts => bulkAll parts + 1
  | .iface _ d => bulk d + 1
  | .map entries => bulkEntries entries + 1
  | .held _ => 1
def bulkAll {H : Type} : List (DataW H) → Nat
  | [] => 0
  | d :: r => bulk d + bulkAll r
def bulkEntries {H : Type} : List (Lit × DataW H) → Nat
  | [] => 0
  | x :: r => bulkEntry x + bulkEntries r
def bulkEntry {H : Type} : Lit × DataW H → Nat
  | (.string bytes, d) => bytes.length + bulk d + 1
  | (_, d) => bulk d + 1
end

def Reads (P : Program) (t : TypeId) (n : Nat) {α : Type} (R : Repr α) (bk : α → Nat) : Prop :=
  ∀ {Hd : Type} (enc : TypeId × Value → Hd) (W : World) (fuel : Nat) (cs : List Value) (d : DataW Hd) (ps : List MemPlace), DataW.trod enc P W 0 (fun _ => true) true fuel t cs = some (d, ps) →
    cs.length = n ∧ ∃ x, bk x ≤ bulk d ∧ Rd1 P W R cs x

/-! ### One cell -/
def intR (k : IntKind) : Repr Int := fun _ cs n => cs = [.int k n] ∧ k.min ≤ n ∧ n ≤ k.max
def strR : Repr (List UInt8) := fun _ cs l => cs = [vstr l] ∧ l.length ≤ 9223372036854775807
def boolR : Repr Bool := fun _ cs b => cs = [.bool b]
theorem intR_mono (k : IntKind) : RMono (intR k) := fun _ _ _ _ _ h => h
theorem strR_mono : RMono strR := fun _ _ _ _ _ h => h
theorem boolR_mono : RMono boolR := fun _ _ _ _ _ h => h

theorem reads_int {t : TypeId} {k : IntKind} (ht : P.underlying t = some (.int k)) : Reads P t 1 (intR k) (fun _ => 1) := by
  intro Hd enc W fuel cs d ps h
  obtain ⟨n, rfl, hx, hw⟩ := DataW.trod_int ht h
  cases hx
  refine ⟨rfl, n, Nat.le_refl _, fun ρ H hs ho h1n => ⟨_, ρ, H, hs, ho, ρ.le_refl, .refl _, .cons _ _ _ _ (.int k n) .nil, rfl, ?_⟩⟩
  simpa [Lit.wf] using hw
theorem reads_string {t : TypeId} (ht : P.underlying t = some .string) : Reads P t 1 strR (fun l => l.length + 1) := by
  intro Hd enc W fuel cs d ps h
  obtain ⟨s, rfl, hx, hw⟩ := DataW.trod_string ht h
  cases hx
  refine ⟨rfl, s.data.toList, Nat.le_refl _, fun ρ H hs ho h1n => ⟨_, ρ, H, hs, ho, ρ.le_refl, .refl _, .cons _ _ _ _ (.string s) .nil, rfl, ?_⟩⟩
  have e : s.data.toList.length = s.size := by rw [Array.length_toList]; rfl
  rw [e]; exact hw
theorem reads_bool {t : TypeId} (ht : P.underlying t = some .bool) : Reads P t 1 boolR (fun _ => 1) := by
  intro Hd enc W fuel cs d ps h
  obtain ⟨b, rfl, hx⟩ := DataW.trod_bool ht h
  cases hx
  exact ⟨rfl, b, Nat.le_refl _, fun ρ H hs ho h1n => ⟨_, ρ, H, hs, ho, ρ.le_refl, .refl _, .cons _ _ _ _ (.bool b) .nil, rfl⟩⟩

/-! ### Side by side -/
def pairR {α β : Type} (n : Nat) (R : Repr α) (S : Repr β) : Repr (α × β) := fun H cs x => ∃ c0 c1, cs = c0 ++ c1 ∧ R H c0 x.1 ∧ S H c1 x.2
def nilR : Repr Unit := fun _ cs _ => cs = []
theorem pairR_mono {α β : Type} {n : Nat} {R : Repr α} {S : Repr β} (hR : RMono R) (hS : RMono S) : RMono (pairR n R S) := by
  rintro H H' cs x g ⟨c0, c1, h1, h2, h3⟩
  exact ⟨c0, c1, h1, hR _ _ _ _ g h2, hS _ _ _ _ g h3⟩
theorem nilR_mono : RMono nilR := fun _ _ _ _ _ h => h
theorem Rd1.pair {W : World} {α β : Type} {n : Nat} {R : Repr α} {S : Repr β} (hR : RMono R) {c0 c1 : List Value} {x : α} {y : β} (h0 : Rd1 P W R c0 x) (h1 : Rd1 P W S c1 y) : Rd1 P W (pairR n R S) (c0 ++ c1) (x, y) := by
  intro ρ H hs ho h1n
  obtain ⟨d0, ρ1, H1, a1, a2, a3, a4, a5, a6⟩ := h0 ρ H hs ho h1n
  obtain ⟨d1, ρ2, H2, b1, b2, b3, b4, b5, b6⟩ := h1 ρ1 H1 a1 a2 (Nat.le_trans h1n a4.1)
  exact ⟨d0 ++ d1, ρ2, H2, b1, b2, Ren.le_trans a3 b3, a4.trans b4, (a5.mono b3).append b5, d0, d1, rfl, hR _ _ _ _ b4 a6, b6⟩
theorem Rd1.nil {W : World} : Rd1 P W nilR [] () := fun ρ H hs ho h1n => ⟨[], ρ, H, hs, ho, ρ.le_refl, .refl _, .nil, rfl⟩

/-! ### Rows of elements -/
def RL {α : Type} (R : Repr α) (H : Heap) : List (List Value) → List α → Prop
  | [], [] => True
  | c :: cs, x :: xs => R H c x ∧ RL R H cs xs
  | _, _ => False
theorem RL_mono {α : Type} {R : Repr α} (hR : RMono R) {H H' : Heap} (g : Grow H H') : ∀ {css : List (List Value)} {xs : List α}, RL R H css xs → RL R H' css xs
  | [], [], _ => trivial
  | _ :: _, _ :: _, h => ⟨hR _ _ _ _ g h.1, RL_mono hR g h.2⟩
  | [], _ :: _, h => h.elim
  | _ :: _, [], h => h.elim
theorem RL_length {α : Type} {R : Repr α} {H : Heap} : ∀ {css : List (List Value)} {xs : List α}, RL R H css xs → css.length = xs.length
  | [], [], _ => rfl
  | _ :: _, _ :: _, h => by simp [RL_length h.2]
  | [], _ :: _, h => h.elim
  | _ :: _, [], h => h.elim
theorem RL_get {α : Type} {R : Repr α} {H : Heap} : ∀ {css : List (List Value)} {xs : List α}, RL R H css xs → ∀ (i : Nat) (x : α), xs[i]? = some x → ∃ c, css[i]? = some c ∧ R H c x
  | [], [], _, i, x, h => by simp at h
  | c :: _, _ :: _, h, 0, x, hx => by simp at hx; subst hx; exact ⟨c, by simp, h.1⟩
  | _ :: _, _ :: _, h, i + 1, x, hx => by simp at hx; simpa using RL_get h.2 i x hx
  | [], _ :: _, h, _, _, _ => h.elim
  | _ :: _, [], h, _, _, _ => h.elim
inductive VRLL (ρ : Ren) : List (List Value) → List (List Value) → Prop
  | nil : VRLL ρ [] []
  | cons {c c' : List Value} {l l' : List (List Value)} (h : VRL ρ c c') (hl : VRLL ρ l l') : VRLL ρ (c :: l) (c' :: l')
theorem VRLL.mono {ρ ρ' : Ren} (hle : ρ.le ρ') : ∀ {l l' : List (List Value)}, VRLL ρ l l' → VRLL ρ' l l'
  | _, _, .nil => .nil
  | _, _, .cons h hl => .cons (h.mono hle) (hl.mono hle)
theorem VRLL.flat {ρ : Ren} : ∀ {l l' : List (List Value)}, VRLL ρ l l' → VRL ρ l.flatten l'.flatten
  | _, _, .nil => .nil
  | _, _, .cons h hl => by simpa using h.append hl.flat

theorem rdL {W : World} {α : Type} {R : Repr α} (hR : RMono R) : ∀ (css : List (List Value)) (xs : List α), css.length = xs.length → (∀ (i : Nat) c x, css[i]? = some c → xs[i]? = some x → Rd1 P W R c x) →
    ∀ ρ H, Sim P ρ H W → NoOwn ρ H → 1 ≤ H.next → ∃ css' ρ' H', Sim P ρ' H' W ∧ NoOwn ρ' H' ∧ ρ.le ρ' ∧ Grow H H' ∧ VRLL ρ' css' css ∧ RL R H' css' xs
  | [], [], _, _, ρ, H, hs, ho, h1n => ⟨[], ρ, H, hs, ho, ρ.le_refl, .refl _, .nil, trivial⟩
  | c :: css, x :: xs, hl, hh, ρ, H, hs, ho, h1n => by
    obtain ⟨d0, ρ1, H1, a1, a2, a3, a4, a5, a6⟩ := hh 0 c x (by simp) (by simp) ρ H hs ho h1n
    obtain ⟨d1, ρ2, H2, b1, b2, b3, b4, b5, b6⟩ := rdL hR css xs (by simpa using hl) (fun i c x h1 h2 => hh (i + 1) c x (by simpa using h1) (by simpa using h2)) ρ1 H1 a1 a2 (Nat.le_trans h1n a4.1)
    exact ⟨d0 :: d1, ρ2, H2, b1, b2, Ren.le_trans a3 b3, a4.trans b4, .cons (a5.mono b3) b5, hR _ _ _ _ b4 a6, b6⟩
  | [], _ :: _, hl, _, _, _, _, _, _ => by simp at hl
  | _ :: _, [], hl, _, _, _, _, _, _ => by simp at hl

/-- The elements, one by one. -/
theorem reads_elems {Hd : Type} {enc : TypeId × Value → Hd} {W : World} {fuel n : Nat} {e : TypeId} {α : Type} {R : Repr α} {bk : α → Nat} (he : Reads P e n R bk) : ∀ (css : List (List Value)) (ds : List (DataW Hd × List MemPlace)), css.length = ds.length →
    (∀ (i : Nat) c d, css[i]? = some c → ds[i]? = some d → DataW.trod enc P W 0 (fun _ => true) true fuel e c = some d) →
    ∃ xs : List α, xs.length = css.length ∧ (xs.map bk).sum ≤ bulkAll (ds.map (·.1)) ∧ (∀ (i : Nat) c x, css[i]? = some c → xs[i]? = some x → c.length = n ∧ Rd1 P W R c x)
  | [], [], _, _ => ⟨[], rfl, by simp, fun i c x h => by simp at h⟩
  | c :: css, d :: ds, hl, hh => by
    obtain ⟨h1, x, hb, hx⟩ := he enc W fuel c d.1 d.2 (hh 0 c d (by simp) (by simp))
    obtain ⟨xs, g1, g2, g3⟩ := reads_elems he css ds (by simpa using hl) (fun i c d h1 h2 => hh (i + 1) c d (by simpa using h1) (by simpa using h2))
    refine ⟨x :: xs, by simp [g1], ?_, ?_⟩
    · simp only [List.map_cons, List.sum_cons, bulkAll]
      omega
    · intro i c' x' h2 h3
      cases i with
      | zero => simp at h2 h3; subst h2; subst h3; exact ⟨h1, hx⟩
      | succ i => simp at h2 h3; exact g3 i c' x' h2 h3
  | [], _ :: _, hl, _ => by simp at hl
  | _ :: _, [], hl, _ => by simp at hl

/-! ### A block that nobody writes -/
theorem Sim.ro {ρ : Ren} {H : Heap} {W : World} (hs : Sim P ρ H W) (ho : NoOwn ρ H) {cs : List Value} {e e' : TypeId} {c : Nat} {ccs : Array Value} {fr : Nat × Nat} {base : Nat} (hb : W.heap[c]? = some (.cells ccs e' fr)) (hat : VRAt ρ cs ccs base) :
    Sim P (ρ.up H.next ⟨c, base, ccs.size, P.cellsOf e⟩) (H.new (.cells cs e false)) W ∧ NoOwn (ρ.up H.next ⟨c, base, ccs.size, P.cellsOf e⟩) (H.new (.cells cs e false)) := by
  have hn : ρ H.next = none := hs.fresh _ (Nat.le_refl _)
  have hle : ρ.le (ρ.up H.next ⟨c, base, ccs.size, P.cellsOf e⟩) := Ren.le_up hn
  have isold : ∀ b l', (ρ.up H.next ⟨c, base, ccs.size, P.cellsOf e⟩) b = some l' → b ≠ H.next → ρ b = some l' := fun b l' hb hne => by rwa [Ren.up_ne _ _ hne] at hb
  have own : NoOwn (ρ.up H.next ⟨c, base, ccs.size, P.cellsOf e⟩) (H.new (.cells cs e false)) := by
    rintro d ⟨b, l, x, h1, h2, h3, h4⟩
    rw [Heap.at_new] at h2
    by_cases hbn : H.next = b
    · rw [if_pos hbn] at h2; cases h2; cases h3
    · rw [if_neg hbn] at h2
      exact ho d ⟨b, l, x, isold b l h1 (Ne.symm hbn), h2, h3, h4⟩
  refine ⟨⟨?_, ?_, ?_, ?_, ?_⟩, own⟩
  · intro b hb'
    simp only [Heap.next_new] at hb'
    rw [Ren.up_ne _ _ (by omega)]
    exact hs.fresh b (by omega)
  · intro b l' hl'
    by_cases hbn : b = H.next
    · subst hbn; rw [Ren.up_same] at hl'; cases hl'
      exact (Array.getElem?_eq_some_iff.1 hb).1
    · exact hs.dom b l' (isold b l' hl' hbn)
  · intro b l' y hl' hy
    rw [Heap.at_new] at hy
    by_cases hbn : H.next = b
    · subst hbn
      rw [if_pos rfl] at hy; cases hy
      rw [Ren.up_same] at hl'; cases hl'
      exact ⟨ccs, e', fr, hb, rfl, rfl, fun h => (by cases h), hat.mono hle⟩
    · rw [if_neg hbn] at hy
      exact (hs.blks b l' y (isold b l' hl' (Ne.symm hbn)) hy).mono hle
  · intro b b' l1 l2 x1 x2 hne h1 h2 hx1 hx2 hown
    exfalso
    exact own l1.blk ⟨b, l1, x1, h1, hx1, hown, rfl⟩
  · intro b hb'
    simp only [Heap.next_new] at hb'
    rw [Heap.at_new, if_neg (by omega)]
    exact hs.clean b (by omega)

/-- A block that lies nowhere. -/
theorem Sim.ghost {ρ : Ren} {H : Heap} {W : World} (hs : Sim P ρ H W) (ho : NoOwn ρ H) {cs : List Value} {e : TypeId} : Sim P ρ (H.new (.cells cs e false)) W ∧ NoOwn ρ (H.new (.cells cs e false)) := by
  have hn : ρ H.next = none := hs.fresh _ (Nat.le_refl _)
  have hne : ∀ b l, ρ b = some l → H.next ≠ b := fun b l hb he => by subst he; rw [hn] at hb; cases hb
  have own : NoOwn ρ (H.new (.cells cs e false)) := by
    rintro d ⟨b, l, x, h1, h2, h3, h4⟩
    rw [Heap.at_new, if_neg (hne b l h1)] at h2
    exact ho d ⟨b, l, x, h1, h2, h3, h4⟩
  refine ⟨⟨fun b hb => hs.fresh b (by simp at hb; omega), hs.dom, ?_, ?_, ?_⟩, own⟩
  · intro b l' y hl' hy
    rw [Heap.at_new, if_neg (hne b l' hl')] at hy
    exact hs.blks b l' y hl' hy
  · intro b b' l1 l2 x1 x2 hne' h1 h2 hx1 hx2 hown
    exact absurd ⟨b, l1, x1, h1, hx1, hown, rfl⟩ (own l1.blk)
  · intro b hb'
    simp only [Heap.next_new] at hb'
    rw [Heap.at_new, if_neg (by omega)]
    exact hs.clean b (by omega)

/-! ### Slices -/
def slR {α : Type} (e : TypeId) (R : Repr α) : Repr (List α) := fun H cs l =>
  (cs = [.slice none 0 0] ∧ l = []) ∨ ∃ b cap css, cs = [.slice (some ⟨b, 0, some 0⟩) l.length cap] ∧ l.length ≤ cap ∧ 1 ≤ b ∧ b < H.next ∧ H.at b = some (.cells css.flatten e false) ∧ RL R H css l
theorem slR_mono {α : Type} {e : TypeId} {R : Repr α} (hR : RMono R) : RMono (slR e R) := by
  rintro H H' cs x g (h | ⟨b, cap, css, h1, h2, hb1, h3, h4, h5⟩)
  · exact .inl h
  · exact .inr ⟨b, cap, css, h1, h2, hb1, Nat.lt_of_lt_of_le h3 g.1, by rw [g.2 b h3]; exact h4, RL_mono hR g h5⟩

theorem cells_some {W : World} {base : Nat} {a : Addr} {n : Nat} {cs : List Value} (h : W.cells? base a n = some cs) : cs.length = n ∧ ∀ i v, cs[i]? = some v → W.cell? (a.add i) = some v := by
  unfold World.cells? at h
  split at h
  · have hl : cs.length = n := by simpa using mapM_some_length h
    refine ⟨hl, fun i v hv => ?_⟩
    have hi : i < n := by rw [← hl]; exact (List.getElem?_eq_some_iff.1 hv).1
    have := mapM_some_get h i i (by simp [hi])
    rw [hv] at this
    exact this
  · cases h
theorem cell_some {W : World} {a : Addr} {v : Value} (h : W.cell? a = some v) : a.spot = none ∧ ∃ c t fr, W.heap[a.block]? = some (.cells c t fr) ∧ c[a.off]? = some v := by
  unfold World.cell? at h
  split at h
  · rename_i c t fr hb
    split at h
    · cases h
    · rename_i hsp
      refine ⟨?_, c, t, fr, hb, h⟩
      cases hs : a.spot with
      | none => rfl
      | some _ => rw [hs] at hsp; simp at hsp
  · cases h
theorem add_parts (a : Addr) (n : Nat) : (a.add n).block = a.block ∧ (a.spot = none → (a.add n).off = a.off + n) ∧ (a.spot = none → (a.add n).spot = none) := by
  cases a with
  | mk b o s =>
    cases s with
    | none => by_cases h : n = 0 <;> simp [Addr.add, h]
    | some k => by_cases h : n = 0 <;> simp [Addr.add, h]
theorem add_zero (a : Addr) : a.add 0 = a := by simp [Addr.add]

theorem flat_get {n : Nat} : ∀ (css : List (List Value)) (i j : Nat) (c : List Value), (∀ c ∈ css, c.length = n) → css[i]? = some c → j < n → css.flatten[i * n + j]? = c[j]?
  | [], i, j, c, _, h, _ => by simp at h
  | c0 :: css, 0, j, c, hn, h, hj => by
    simp at h; subst h
    have := hn c0 (by simp)
    simp only [List.flatten_cons, Nat.zero_mul, Nat.zero_add]
    rw [List.getElem?_append_left (by omega)]
  | c0 :: css, i + 1, j, c, hn, h, hj => by
    have h0 := hn c0 (by simp)
    simp at h
    simp only [List.flatten_cons]
    rw [List.getElem?_append_right (by rw [h0, Nat.add_mul]; omega), h0]
    have := flat_get css i j c (fun c hc => hn c (by simp [hc])) h hj
    rw [← this]
    congr 1
    rw [Nat.add_mul]; omega
theorem flat_len {n : Nat} : ∀ (css : List (List Value)), (∀ c ∈ css, c.length = n) → css.flatten.length = css.length * n
  | [], _ => by simp
  | c :: css, h => by
    simp only [List.flatten_cons, List.length_append, List.length_cons]
    rw [h c (by simp), flat_len css (fun c hc => h c (by simp [hc])), Nat.add_mul]
    omega

theorem mem_get {α : Type} {l : List α} {x : α} (h : x ∈ l) : ∃ i : Nat, l[i]? = some x := by
  obtain ⟨i, hi, rfl⟩ := List.mem_iff_getElem.1 h
  exact ⟨i, by simp [hi]⟩

theorem ge_lookup {Hd : Type} (elems : List (DataW Hd × List MemPlace)) (f : Nat → Option (List Value)) (g : List Value → Option (DataW Hd × List MemPlace)) (len : Nat) (hl : elems.length = len) (h : ∀ i, i < len → (f i).bind g = elems[i]?) :
    ∃ css : List (List Value), css.length = elems.length ∧ (∀ (i : Nat) c d, css[i]? = some c → elems[i]? = some d → g c = some d) ∧ ∀ (i : Nat) c, css[i]? = some c → f i = some c := by
  refine ⟨(List.range len).map (fun i => (f i).getD []), by simp [hl], ?_, ?_⟩
  · intro i c d h1 h2
    have hi : i < len := by rw [← hl]; exact (List.getElem?_eq_some_iff.1 h2).1
    have := h i hi
    rw [h2] at this
    simp [hi] at h1
    subst h1
    cases hf : f i with
    | none => rw [hf] at this; cases this
    | some c => rw [hf] at this; exact this
  · intro i c h1
    have hi : i < len := by
      have := (List.getElem?_eq_some_iff.1 h1).1
      simpa using this
    have := h i hi
    simp [hi] at h1
    subst h1
    cases hf : f i with
    | none =>
      rw [hf] at this
      have hlt : i < elems.length := by omega
      rw [List.getElem?_eq_getElem hlt] at this
      cases this
    | some c => rfl

theorem reads_slice {t e : TypeId} {n : Nat} {α : Type} {R : Repr α} {bk : α → Nat} (ht : P.underlying t = some (.slice e)) (hn : P.cellsOf e = n) (hn0 : 0 < n) (he : Reads P e n R bk) (hR : RMono R) : Reads P t 1 (slR e R) (fun l => (l.map bk).sum + 1) := by
  intro Hd enc W fuel cs d ps h
  rcases DataW.trod_slice ht h with ⟨rfl, hx⟩ | ⟨a, len, cap, elems, rest, m, _, rfl, hx, _, hlc, hcm, hel, hget, hsp, _⟩
  · cases hx
    exact ⟨rfl, [], Nat.le_refl _, fun ρ H hs ho h1n => ⟨_, ρ, H, hs, ho, ρ.le_refl, .refl _, .cons _ _ _ _ .slNil .nil, .inl ⟨rfl, rfl⟩⟩⟩
  · cases hx
    refine ⟨rfl, ?_⟩
    obtain ⟨hrl, hrget⟩ := hsp rfl
    obtain ⟨css, c1, c2, c3⟩ := ge_lookup elems _ _ len hel hget
    obtain ⟨xs, g1, g2, g3⟩ := reads_elems (fuel := m) he css elems c1 c2
    refine ⟨xs, ?_, ?_⟩
    · simp only [bulk]; omega
    · intro ρ H hs ho h1n
      obtain ⟨css', ρ1, H1, a1, a2, a3, a4, a5, a6⟩ := rdL hR css xs g1.symm (fun i c x h1 h2 => (g3 i c x h1 h2).2) ρ H hs ho h1n
      have hn1 : 1 ≤ H1.next := Nat.le_trans h1n a4.1
      have hxl : xs.length = len := by rw [g1, c1, hel]
      have hlens : ∀ c ∈ css, c.length = n := by
        intro c hc
        obtain ⟨i, hi⟩ := mem_get hc
        have hix : i < xs.length := by rw [g1]; exact (List.getElem?_eq_some_iff.1 hi).1
        exact (g3 i c xs[i] hi (by simp [hix])).1
      by_cases hcap : cap = 0
      · -- it lies anywhere
        have hl0 : len = 0 := by omega
        subst hcap; subst hl0
        obtain ⟨k1, k2⟩ := a1.ghost a2 (cs := css'.flatten) (e := e)
        refine ⟨[.slice (some ⟨H1.next, 0, some 0⟩) 0 0], ρ1, _, k1, k2, a3, a4.new, .cons _ _ _ _ (.sl0 _ _) .nil, .inr ⟨H1.next, 0, css', by rw [hxl], by omega, hn1, by simp, at_new_same, ?_⟩⟩
        exact RL_mono hR ((Grow.refl H1).new) a6
      · -- its block
        have hblk : a.spot = none ∧ ∃ ccs ct fr, W.heap[a.block]? = some (.cells ccs ct fr) := by
          by_cases hl0 : len = 0
          · have hr := hrget 0 (by omega)
            have hlt : 0 < rest.length := by omega
            rw [List.getElem?_eq_getElem hlt] at hr
            obtain ⟨c, hc, _⟩ := Option.bind_eq_some_iff.1 hr
            rw [hn] at hc
            obtain ⟨hcl, hcc⟩ := cells_some hc
            have h0 : 0 < c.length := by omega
            obtain ⟨q1, ccs, ct, fr, q2, _⟩ := cell_some (hcc 0 c[0] (by simp [h0]))
            subst hl0
            rw [Nat.add_zero, Nat.zero_mul, add_zero, add_zero] at q1 q2
            exact ⟨q1, ccs, ct, fr, q2⟩
          · have hr := hget 0 (by omega)
            have hlt : 0 < elems.length := by omega
            rw [List.getElem?_eq_getElem hlt] at hr
            obtain ⟨c, hc, _⟩ := Option.bind_eq_some_iff.1 hr
            rw [hn] at hc
            obtain ⟨hcl, hcc⟩ := cells_some hc
            have h0 : 0 < c.length := by omega
            obtain ⟨q1, ccs, ct, fr, q2, _⟩ := cell_some (hcc 0 c[0] (by simp [h0]))
            rw [Nat.zero_mul, add_zero, add_zero] at q1 q2
            exact ⟨q1, ccs, ct, fr, q2⟩
        obtain ⟨hspot, ccs, ct, fr, hb⟩ := hblk
        have hat : VRAt ρ1 css'.flatten ccs a.off := by
          intro i v hv
          obtain ⟨v', hv', hvr⟩ := a5.flat.get i v hv
          refine ⟨v', ?_, hvr⟩
          have hlen := flat_len css hlens
          have hi : i < css.length * n := by rw [← hlen]; exact (List.getElem?_eq_some_iff.1 hv').1
          have hq : i / n < css.length := Nat.div_lt_of_lt_mul (by rw [Nat.mul_comm]; exact hi)
          have hr : i % n < n := Nat.mod_lt _ hn0
          have hdm : i / n * n + i % n = i := by rw [Nat.mul_comm]; exact Nat.div_add_mod i n
          have hci : css[i / n]? = some css[i / n] := by simp [hq]
          have hfg := flat_get css (i / n) (i % n) css[i / n] hlens hci hr
          rw [hdm, hv'] at hfg
          have hc := c3 (i / n) _ hci
          rw [hn] at hc
          obtain ⟨_, hcc⟩ := cells_some hc
          obtain ⟨_, ccs2, ct2, fr2, q2, q3⟩ := cell_some (hcc (i % n) v' hfg.symm)
          obtain ⟨f1, f2, f3⟩ := add_parts a (i / n * n)
          obtain ⟨e1, e2, _⟩ := add_parts (a.add (i / n * n)) (i % n)
          rw [e1, f1, hb] at q2
          cases q2
          rw [e2 (f3 hspot), f2 hspot] at q3
          rw [← q3]
          congr 1
          omega
        obtain ⟨k1, k2⟩ := a1.ro a2 (e := e) hb hat
        have hle1 : ρ1.le (ρ1.up H1.next ⟨a.block, a.off, ccs.size, P.cellsOf e⟩) := Ren.le_up (a1.fresh _ (Nat.le_refl _))
        refine ⟨[.slice (some ⟨H1.next, 0, some 0⟩) len cap], _, _, k1, k2, Ren.le_trans a3 hle1, a4.new, .cons _ _ _ _ ?_ .nil, .inr ⟨H1.next, cap, css', by rw [hxl], by omega, hn1, by simp, at_new_same, ?_⟩⟩
        · have := VR.sl (ρ := ρ1.up H1.next ⟨a.block, a.off, ccs.size, P.cellsOf e⟩) ⟨H1.next, 0, some 0⟩ len cap cap _ (Ren.up_same _ _ _) hlc (Nat.le_refl _) (fun _ => rfl) (fun h => by cases h)
          simp only [Nat.add_zero] at this
          have ea : a = ⟨a.block, a.off, none⟩ := by cases a; simp at hspot; subst hspot; rfl
          rw [ea]
          exact this
        · exact RL_mono hR ((Grow.refl H1).new) a6

/-! ### Structs and arrays -/
theorem take_parts {cs : List Value} {n : Nat} (h : cs.length = n) : (cs.drop 0).take n = cs := by rw [List.drop_zero, List.take_of_length_le (by omega)]

theorem reads_struct2 {t : TypeId} {f0 f1 : Field} {n0 n1 : Nat} {α β : Type} {R0 : Repr α} {R1 : Repr β} {b0 : α → Nat} {b1 : β → Nat} (ht : P.underlying t = some (.struct #[f0, f1])) (o0 : f0.offset = 0) (o1 : f1.offset = n0)
    (c0 : P.cellsOf f0.type = n0) (c1 : P.cellsOf f1.type = n1) (h0 : Reads P f0.type n0 R0 b0) (h1 : Reads P f1.type n1 R1 b1) (hc : P.cellsOf t = n0 + n1) (m0 : RMono R0) (m1 : RMono R1) :
    Reads P t (n0 + n1) (pairR n0 R0 (pairR n1 R1 nilR)) (fun x => b0 x.1 + b1 x.2.1 + 1) := by
  intro Hd enc W fuel cs d ps h
  obtain ⟨xs, n, _, hx, hl, hxl, hget⟩ := DataW.trod_struct ht h
  cases hx
  rw [hc] at hl
  match xs, hxl, hget with
  | [x0, x1], _, hget =>
    obtain ⟨l0, y0, q0, r0⟩ := h0 enc W n _ x0.1 x0.2 (by simpa [o0, c0] using hget 0 f0 rfl)
    obtain ⟨l1, y1, q1, r1⟩ := h1 enc W n _ x1.1 x1.2 (by simpa [o1, c1] using hget 1 f1 rfl)
    refine ⟨hl, (y0, y1, ()), ?_, ?_⟩
    · simp only [List.map_cons, List.map_nil, bulk, bulkAll]; omega
    · have e : cs = cs.take n0 ++ ((cs.drop n0).take n1 ++ []) := by
        rw [List.append_nil, List.take_of_length_le (i := n1) (by simp; omega), List.take_append_drop]
      rw [e]
      refine Rd1.pair m0 (by simpa using r0) (Rd1.pair m1 r1 Rd1.nil)
theorem reads_struct3 {t : TypeId} {f0 f1 f2 : Field} {n0 n1 n2 : Nat} {α β γ : Type} {R0 : Repr α} {R1 : Repr β} {R2 : Repr γ} {b0 : α → Nat} {b1 : β → Nat} {b2 : γ → Nat} (ht : P.underlying t = some (.struct #[f0, f1, f2])) (o0 : f0.offset = 0) (o1 : f1.offset = n0) (o2 : f2.offset = n0 + n1)
    (c0 : P.cellsOf f0.type = n0) (c1 : P.cellsOf f1.type = n1) (c2 : P.cellsOf f2.type = n2) (h0 : Reads P f0.type n0 R0 b0) (h1 : Reads P f1.type n1 R1 b1) (h2 : Reads P f2.type n2 R2 b2) (hc : P.cellsOf t = n0 + n1 + n2) (m0 : RMono R0) (m1 : RMono R1) (m2 : RMono R2) :
    Reads P t (n0 + n1 + n2) (pairR n0 R0 (pairR n1 R1 (pairR n2 R2 nilR))) (fun x => b0 x.1 + b1 x.2.1 + b2 x.2.2.1 + 1) := by
  intro Hd enc W fuel cs d ps h
  obtain ⟨xs, n, _, hx, hl, hxl, hget⟩ := DataW.trod_struct ht h
  cases hx
  rw [hc] at hl
  match xs, hxl, hget with
  | [x0, x1, x2], _, hget =>
    obtain ⟨l0, y0, q0, r0⟩ := h0 enc W n _ x0.1 x0.2 (by simpa [o0, c0] using hget 0 f0 rfl)
    obtain ⟨l1, y1, q1, r1⟩ := h1 enc W n _ x1.1 x1.2 (by simpa [o1, c1] using hget 1 f1 rfl)
    obtain ⟨l2, y2, q2, r2⟩ := h2 enc W n _ x2.1 x2.2 (by simpa [o2, c2] using hget 2 f2 rfl)
    refine ⟨hl, (y0, y1, y2, ()), ?_, ?_⟩
    · simp only [List.map_cons, List.map_nil, bulk, bulkAll]; omega
    · have e : cs = cs.take n0 ++ ((cs.drop n0).take n1 ++ ((cs.drop (n0 + n1)).take n2 ++ [])) := by
        rw [List.append_nil, List.take_of_length_le (i := n2) (by simp; omega), ← List.drop_drop, List.take_append_drop, List.take_append_drop]
      rw [e]
      refine Rd1.pair m0 (by simpa using r0) (Rd1.pair m1 r1 (Rd1.pair m2 r2 Rd1.nil))
theorem reads_struct4 {t : TypeId} {f0 f1 f2 f3 : Field} {n0 n1 n2 n3 : Nat} {α β γ δ : Type} {R0 : Repr α} {R1 : Repr β} {R2 : Repr γ} {R3 : Repr δ} {b0 : α → Nat} {b1 : β → Nat} {b2 : γ → Nat} {b3 : δ → Nat} (ht : P.underlying t = some (.struct #[f0, f1, f2, f3]))
    (o0 : f0.offset = 0) (o1 : f1.offset = n0) (o2 : f2.offset = n0 + n1) (o3 : f3.offset = n0 + n1 + n2)
    (c0 : P.cellsOf f0.type = n0) (c1 : P.cellsOf f1.type = n1) (c2 : P.cellsOf f2.type = n2) (c3 : P.cellsOf f3.type = n3) (h0 : Reads P f0.type n0 R0 b0) (h1 : Reads P f1.type n1 R1 b1) (h2 : Reads P f2.type n2 R2 b2) (h3 : Reads P f3.type n3 R3 b3)
    (hc : P.cellsOf t = n0 + n1 + n2 + n3) (m0 : RMono R0) (m1 : RMono R1) (m2 : RMono R2) (m3 : RMono R3) :
    Reads P t (n0 + n1 + n2 + n3) (pairR n0 R0 (pairR n1 R1 (pairR n2 R2 (pairR n3 R3 nilR)))) (fun x => b0 x.1 + b1 x.2.1 + b2 x.2.2.1 + b3 x.2.2.2.1 + 1) := by
  intro Hd enc W fuel cs d ps h
  obtain ⟨xs, n, _, hx, hl, hxl, hget⟩ := DataW.trod_struct ht h
  cases hx
  rw [hc] at hl
  match xs, hxl, hget with
  | [x0, x1, x2, x3], _, hget =>
    obtain ⟨l0, y0, q0, r0⟩ := h0 enc W n _ x0.1 x0.2 (by simpa [o0, c0] using hget 0 f0 rfl)
    obtain ⟨l1, y1, q1, r1⟩ := h1 enc W n _ x1.1 x1.2 (by simpa [o1, c1] using hget 1 f1 rfl)
    obtain ⟨l2, y2, q2, r2⟩ := h2 enc W n _ x2.1 x2.2 (by simpa [o2, c2] using hget 2 f2 rfl)
    obtain ⟨l3, y3, q3, r3⟩ := h3 enc W n _ x3.1 x3.2 (by simpa [o3, c3] using hget 3 f3 rfl)
    refine ⟨hl, (y0, y1, y2, y3, ()), ?_, ?_⟩
    · simp only [List.map_cons, List.map_nil, bulk, bulkAll]; omega
    · have e : cs = cs.take n0 ++ ((cs.drop n0).take n1 ++ ((cs.drop (n0 + n1)).take n2 ++ ((cs.drop (n0 + n1 + n2)).take n3 ++ []))) := by
        rw [List.append_nil, List.take_of_length_le (i := n3) (by simp; omega), ← List.drop_drop (i := n2) (j := n0 + n1), List.take_append_drop, ← List.drop_drop, List.take_append_drop, List.take_append_drop]
      rw [e]
      refine Rd1.pair m0 (by simpa using r0) (Rd1.pair m1 r1 (Rd1.pair m2 r2 (Rd1.pair m3 r3 Rd1.nil)))

def arrR {α : Type} (R : Repr α) (N : Nat) : Repr (List α) := fun H cs l => ∃ css, cs = css.flatten ∧ RL R H css l ∧ l.length = N
theorem arrR_mono {α : Type} {R : Repr α} {N : Nat} (hR : RMono R) : RMono (arrR R N) := by
  rintro H H' cs x g ⟨css, h1, h2, h3⟩
  exact ⟨css, h1, RL_mono hR g h2, h3⟩
theorem chunks_flat {n : Nat} : ∀ (N : Nat) (cs : List Value), cs.length = N * n → ((List.range N).map fun i => (cs.drop (i * n)).take n).flatten = cs
  | 0, cs, h => by
    have : cs = [] := List.length_eq_zero_iff.1 (by simpa using h)
    subst this; rfl
  | N + 1, cs, h => by
    have h' : cs.length = N * n + n := by rw [h, Nat.add_mul]; omega
    rw [List.range_succ_eq_map, List.map_cons, List.flatten_cons, List.map_map]
    have := chunks_flat (n := n) N (cs.drop n) (by rw [List.length_drop]; omega)
    have e : ((fun i => List.take n (List.drop (i * n) cs)) ∘ Nat.succ) = fun i => List.take n (List.drop (i * n) (cs.drop n)) := by
      funext i
      simp only [Function.comp, List.drop_drop]
      congr 2
      rw [Nat.succ_mul]; omega
    rw [e, this]
    simp
theorem reads_array {t e : TypeId} {N n : Nat} {α : Type} {R : Repr α} {bk : α → Nat} (ht : P.underlying t = some (.array N e)) (hn : P.cellsOf e = n) (hc : P.cellsOf t = N * n) (he : Reads P e n R bk) (hR : RMono R) :
    Reads P t (N * n) (arrR R N) (fun l => (l.map bk).sum + 1) := by
  intro Hd enc W fuel cs d ps h
  obtain ⟨xs, m, _, hx, hl, hxl, hget⟩ := DataW.trod_array ht h
  cases hx
  rw [hc] at hl
  rw [hn] at hget
  obtain ⟨ys, g1, g2, g3⟩ := reads_elems (fuel := m) he ((List.range N).map fun i => (cs.drop (i * n)).take n) xs (by simp [hxl]) (by
    intro i c d h1 h2
    have hi : i < N := by rw [← hxl]; exact (List.getElem?_eq_some_iff.1 h2).1
    have := hget i hi
    rw [h2] at this
    simp [hi] at h1
    rw [← h1]
    exact this)
  refine ⟨hl, ys, ?_, ?_⟩
  · simp only [bulk]; omega
  · intro ρ H hs ho h1n
    obtain ⟨css', ρ1, H1, a1, a2, a3, a4, a5, a6⟩ := rdL hR _ ys g1.symm (fun i c x h1 h2 => (g3 i c x h1 h2).2) ρ H hs ho h1n
    refine ⟨css'.flatten, ρ1, H1, a1, a2, a3, a4, ?_, css', rfl, a6, by rw [g1]; simp⟩
    have := a5.flat
    rwa [chunks_flat N cs hl] at this

/-! ### Flat rows -/
theorem RL_int {k : IntKind} {H : Heap} : ∀ {css : List (List Value)} {xs : List Int}, RL (intR k) H css xs → css.flatten = xs.map (.int k) ∧ ∀ x ∈ xs, k.min ≤ x ∧ x ≤ k.max
  | [], [], _ => ⟨rfl, fun _ h => by simp at h⟩
  | c :: cs, x :: xs, h => by
    obtain ⟨h1, h2⟩ := RL_int h.2
    obtain ⟨rfl, h3⟩ := h.1
    refine ⟨by simp [h1], fun y hy => ?_⟩
    rcases List.mem_cons.1 hy with rfl | hy
    · exact h3
    · exact h2 y hy
  | [], _ :: _, h => h.elim
  | _ :: _, [], h => h.elim

/-- Ints in a row that nobody writes. -/
theorem slR_int {k : IntKind} {e : TypeId} {H : Heap} {cs : List Value} {l : List Int} (h : slR e (intR k) H cs l) :
    ((cs = [.slice none 0 0] ∧ l = []) ∨ ∃ b cap, cs = [.slice (some ⟨b, 0, some 0⟩) l.length cap] ∧ l.length ≤ cap ∧ 1 ≤ b ∧ b < H.next ∧ H.at b = some (.cells (l.map (.int k)) e false)) ∧ ∀ x ∈ l, k.min ≤ x ∧ x ≤ k.max := by
  rcases h with ⟨h1, h2⟩ | ⟨b, cap, css, h1, h2, hb1, h3, h4, h5⟩
  · subst h2; exact ⟨.inl ⟨h1, rfl⟩, fun _ h => by simp at h⟩
  · obtain ⟨e1, e2⟩ := RL_int h5
    rw [e1] at h4
    exact ⟨.inr ⟨b, cap, h1, h2, hb1, h3, h4⟩, e2⟩

/-! ### All arguments -/
abbrev VRepr (α : Type) := Heap → Value → α → Prop
def VMono {α : Type} (V : VRepr α) : Prop := ∀ H H' v x, Grow H H' → V H v x → V H' v x
def oneV {α : Type} (R : Repr α) : VRepr α := fun H v x => R H [v] x
def aggV {α : Type} (R : Repr α) : VRepr α := fun H v x => ∃ cs, v = .agg ⟨cs⟩ ∧ R H cs x
theorem oneV_mono {α : Type} {R : Repr α} (h : RMono R) : VMono (oneV R) := fun _ _ _ _ g hr => h _ _ _ _ g hr
theorem aggV_mono {α : Type} {R : Repr α} (h : RMono R) : VMono (aggV R) := fun _ _ _ _ g ⟨cs, h1, h2⟩ => ⟨cs, h1, h _ _ _ _ g h2⟩
def RdV (P : Program) (W : World) {α : Type} (V : VRepr α) (v : Value) (x : α) : Prop :=
  ∀ ρ H, Sim P ρ H W → NoOwn ρ H → 1 ≤ H.next → ∃ v' ρ' H', Sim P ρ' H' W ∧ NoOwn ρ' H' ∧ ρ.le ρ' ∧ Grow H H' ∧ VR ρ' v' v ∧ V H' v' x

theorem arg_agg {W : World} {t : TypeId} {n : Nat} {α : Type} {R : Repr α} {bk : α → Nat} (hr : Reads P t n R bk) {Hd : Type} {enc : TypeId × Value → Hd} {v : Value} {d : DataW Hd} {ps : List MemPlace} (ha : isAggB ((P.underlying t).getD .bool) = true)
    (hval : ∃ b, Value.okWide P W .any b t v) (h : DataW.Trod enc P W 0 (fun _ => true) true t v d ps) : ∃ x, bk x ≤ bulk d ∧ RdV P W (aggV R) v x := by
  obtain ⟨fuel, h⟩ := h
  obtain ⟨b, hval⟩ := hval
  have hv : ∃ cs, v = .agg cs := by
    unfold Value.okWide at hval
    cases ht : P.underlying t with
    | none => rw [ht] at ha; cases ha
    | some u =>
      rw [ht] at ha hval
      cases u <;> first | (cases ha; done) | (obtain ⟨cs, h1, _⟩ := hval; exact ⟨cs, h1⟩)
  obtain ⟨cs, rfl⟩ := hv
  obtain ⟨_, x, h1, h2⟩ := hr enc W fuel _ d ps h
  refine ⟨x, h1, fun ρ H hs ho h1n => ?_⟩
  obtain ⟨cs', ρ', H', a1, a2, a3, a4, a5, a6⟩ := h2 ρ H hs ho h1n
  obtain ⟨cs⟩ := cs
  exact ⟨.agg ⟨cs'⟩, ρ', H', a1, a2, a3, a4, .agg _ _ a5, cs', rfl, a6⟩
theorem arg_one {W : World} {t : TypeId} {α : Type} {R : Repr α} {bk : α → Nat} (hr : Reads P t 1 R bk) {Hd : Type} {enc : TypeId × Value → Hd} {v : Value} {d : DataW Hd} {ps : List MemPlace} (hv : v.cells.toList = [v])
    (h : DataW.Trod enc P W 0 (fun _ => true) true t v d ps) : ∃ x, bk x ≤ bulk d ∧ RdV P W (oneV R) v x := by
  obtain ⟨fuel, h⟩ := h
  rw [hv] at h
  obtain ⟨_, x, h1, h2⟩ := hr enc W fuel _ d ps h
  refine ⟨x, h1, fun ρ H hs ho h1n => ?_⟩
  obtain ⟨cs', ρ', H', a1, a2, a3, a4, a5, a6⟩ := h2 ρ H hs ho h1n
  cases a5 with
  | cons v' _ l l' hvr hl => cases hl; exact ⟨v', ρ', H', a1, a2, a3, a4, hvr, a6⟩
theorem one_cell {W : World} {t : TypeId} {v : Value} (ha : (P.underlying t).map isAggB = some false) (hb : ∀ ts, P.underlying t ≠ some (.tuple ts)) (hval : ∃ b, Value.okWide P W .any b t v) : v.cells.toList = [v] := by
  obtain ⟨b, hval⟩ := hval
  cases v with
  | agg cs =>
    exfalso
    unfold Value.okWide at hval
    cases ht : P.underlying t with
    | none => rw [ht] at ha; cases ha
    | some u =>
      rw [ht] at ha hval
      cases u <;> first | (cases ha; done) | (simp [Cell.okWide, Cell.ok, ht] at hval)
  | tuple cs =>
    exfalso
    unfold Value.okWide at hval
    cases ht : P.underlying t with
    | none => rw [ht] at ha; cases ha
    | some u =>
      rw [ht] at ha hval
      cases u <;> first | (cases ha; done) | (simp [Cell.okWide, Cell.ok, ht] at hval)
  | _ => rfl

theorem law1 (hdep : 50 ≤ P.depth) (hm : P.follows .mixedOrders = true) {M : Mach} (hT : TableOk P M.F) (hO : OracleOk P M.O) {W : World} {f : Nat} {α : Type} {V : VRepr α} {v : Value} {x : α} (h0 : RdV P W V v x)
    (run : ∀ H v', 1 ≤ H.next → V H v' x → WF M f [v'] H (fun v _ => v = .bool true)) : Calls P f #[v] W (LawEnd W) := by
  obtain ⟨v', ρ', H', a1, a2, a3, a4, a5, a6⟩ := h0 noRen emptyH (sim_empty W) (fun c ⟨b, l, x, h, _⟩ => by cases h) (Nat.le_refl _)
  exact law_calls hdep hm hT hO (run H' v' a4.1 a6) a1 (.cons _ _ _ _ a5 .nil) a2
theorem law2 (hdep : 50 ≤ P.depth) (hm : P.follows .mixedOrders = true) {M : Mach} (hT : TableOk P M.F) (hO : OracleOk P M.O) {W : World} {f : Nat} {α β : Type} {V : VRepr α} {V1 : VRepr β} {v v1 : Value} {x : α} {x1 : β} (h0 : RdV P W V v x) (h1 : RdV P W V1 v1 x1) (m0 : VMono V)
    (run : ∀ H v' v1', 1 ≤ H.next → V H v' x → V1 H v1' x1 → WF M f [v', v1'] H (fun v _ => v = .bool true)) : Calls P f #[v, v1] W (LawEnd W) := by
  obtain ⟨v', ρ', H', a1, a2, a3, a4, a5, a6⟩ := h0 noRen emptyH (sim_empty W) (fun c ⟨b, l, x, h, _⟩ => by cases h) (Nat.le_refl _)
  obtain ⟨v1', ρ1, H1, b1, b2, b3, b4, b5, b6⟩ := h1 ρ' H' a1 a2 a4.1
  exact law_calls hdep hm hT hO (run H1 v' v1' (Nat.le_trans a4.1 b4.1) (m0 _ _ _ _ b4 a6) b6) b1 (.cons _ _ _ _ (a5.mono b3) (.cons _ _ _ _ b5 .nil)) b2
theorem law3 (hdep : 50 ≤ P.depth) (hm : P.follows .mixedOrders = true) {M : Mach} (hT : TableOk P M.F) (hO : OracleOk P M.O) {W : World} {f : Nat} {α β γ : Type} {V : VRepr α} {V1 : VRepr β} {V2 : VRepr γ} {v v1 v2 : Value} {x : α} {x1 : β} {x2 : γ} (h0 : RdV P W V v x) (h1 : RdV P W V1 v1 x1) (h2 : RdV P W V2 v2 x2) (m0 : VMono V) (m1 : VMono V1)
    (run : ∀ H v' v1' v2', 1 ≤ H.next → V H v' x → V1 H v1' x1 → V2 H v2' x2 → WF M f [v', v1', v2'] H (fun v _ => v = .bool true)) : Calls P f #[v, v1, v2] W (LawEnd W) := by
  obtain ⟨v', ρ', H', a1, a2, a3, a4, a5, a6⟩ := h0 noRen emptyH (sim_empty W) (fun c ⟨b, l, x, h, _⟩ => by cases h) (Nat.le_refl _)
  obtain ⟨v1', ρ1, H1, b1, b2, b3, b4, b5, b6⟩ := h1 ρ' H' a1 a2 a4.1
  obtain ⟨v2', ρ2, H2, c1, c2, c3, c4, c5, c6⟩ := h2 ρ1 H1 b1 b2 (Nat.le_trans a4.1 b4.1)
  exact law_calls hdep hm hT hO (run H2 v' v1' v2' (Nat.le_trans a4.1 (Nat.le_trans b4.1 c4.1)) (m0 _ _ _ _ (b4.trans c4) a6) (m1 _ _ _ _ c4 b6) c6) c1 (.cons _ _ _ _ (a5.mono (Ren.le_trans b3 c3)) (.cons _ _ _ _ (b5.mono c3) (.cons _ _ _ _ c5 .nil))) c2

end Go.Rx
