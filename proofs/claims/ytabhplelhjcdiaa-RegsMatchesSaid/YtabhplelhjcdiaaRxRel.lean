/- How the abstract machine's values and heap stand to a real world: a renaming of blocks. -/
import Derived.Test.YtabhplelhjcdiaaRxTr
/- How the abstract machine's values and heap stand to a real world: a renaming of blocks. -/
namespace Go.Rx

/-- Where an abstract block lies: the real block, the place in it, how many cells that one has, how many an element has. -/
structure Loc where
  blk : Nat
  base : Nat
  total : Nat
  esz : Nat

abbrev Ren := Nat → Option Loc
def Ren.le (ρ ρ' : Ren) : Prop := ∀ b l, ρ b = some l → ρ' b = some l
def Ren.up (ρ : Ren) (b : Nat) (l : Loc) : Ren := fun c => if c = b then some l else ρ c

theorem Ren.le_refl (ρ : Ren) : ρ.le ρ := fun _ _ h => h
theorem Ren.le_trans {a b c : Ren} (h : a.le b) (h' : b.le c) : a.le c := fun _ _ e => h' _ _ (h _ _ e)
theorem Ren.le_up {ρ : Ren} {b : Nat} {l : Loc} (h : ρ b = none) : ρ.le (ρ.up b l) := fun c l' e => by
  unfold Ren.up
  split
  · rename_i hc; subst hc; rw [h] at e; cases e
  · exact e
theorem Ren.up_same (ρ : Ren) (b : Nat) (l : Loc) : ρ.up b l b = some l := by simp [Ren.up]
theorem Ren.up_ne (ρ : Ren) {b c : Nat} (l : Loc) (h : c ≠ b) : ρ.up b l c = ρ c := by simp [Ren.up, h]

mutual
inductive VR (ρ : Ren) : Value → Value → Prop
  | bool (b : Bool) : VR ρ (.bool b) (.bool b)
  | int (k : IntKind) (n : Int) : VR ρ (.int k n) (.int k n)
  | string (s : ByteArray) : VR ρ (.string s) (.string s)
  | nilIface : VR ρ .nilIface .nilIface
  | nilFunc : VR ρ .nilFunc .nilFunc
  | ptrNil : VR ρ (.pointer none) (.pointer none)
  | mapNil : VR ρ (.map none) (.map none)
  | ptr (a : Addr) (l : Loc) (h : ρ a.block = some l) (hs : a.spot = none) : VR ρ (.pointer (some a)) (.pointer (some ⟨l.blk, l.base + a.off, none⟩))
  | slNil : VR ρ (.slice none 0 0) (.slice none 0 0)
  | sl (a : Addr) (n c c' : Nat) (l : Loc) (h : ρ a.block = some l) (hn : n ≤ c) (hc : c ≤ c') (hx : a.spot ≠ none → c' = c) (fit : a.spot = none → l.base + a.off + c' * l.esz ≤ l.total) :
      VR ρ (.slice (some a) n c) (.slice (some ⟨l.blk, l.base + a.off, none⟩) n c')
  | sl0 (a b : Addr) : VR ρ (.slice (some a) 0 0) (.slice (some b) 0 0)
  | map (r : Nat) (l : Loc) (h : ρ r = some l) : VR ρ (.map (some r)) (.map (some l.blk))
  | cap (c c' : Nat) (h : c ≤ c') : VR ρ (capLB c) (.int .i64 c')
  | func (f : Fn) (a b a' b' : List Value) (ha : VRL ρ a a') (hb : VRL ρ b b') : VR ρ (.func f ⟨a⟩ ⟨b⟩) (.func f ⟨a'⟩ ⟨b'⟩)
  | iface (t : TypeId) (v v' : Value) (h : VR ρ v v') : VR ρ (.iface t v) (.iface t v')
  | agg (l l' : List Value) (h : VRL ρ l l') : VR ρ (.agg ⟨l⟩) (.agg ⟨l'⟩)
  | tuple (l l' : List Value) (h : VRL ρ l l') : VR ρ (.tuple ⟨l⟩) (.tuple ⟨l'⟩)
inductive VRL (ρ : Ren) : List Value → List Value → Prop
  | nil : VRL ρ [] []
  | cons (v v' : Value) (l l' : List Value) (h : VR ρ v v') (hl : VRL ρ l l') : VRL ρ (v :: l) (v' :: l')
end

mutual
theorem VR.mono {ρ ρ' : Ren} (hle : ρ.le ρ') : ∀ {v v' : Value}, VR ρ v v' → VR ρ' v v'
  | _, _, .bool b => .bool b
  | _, _, .int k n => .int k n
  | _, _, .string s => .string s
  | _, _, .nilIface => .nilIface
  | _, _, .nilFunc => .nilFunc
  | _, _, .ptrNil => .ptrNil
  | _, _, .mapNil => .mapNil
  | _, _, .ptr a l h hs => .ptr a l (hle _ _ h) hs
  | _, _, .slNil => .slNil
  | _, _, .sl a n c c' l h hn hc hx fit => .sl a n c c' l (hle _ _ h) hn hc hx fit
  | _, _, .sl0 a b => .sl0 a b
  | _, _, .map r l h => .map r l (hle _ _ h)
  | _, _, .cap c c' h => .cap c c' h
  | _, _, .func f a b a' b' ha hb => .func f a b a' b' (VRL.mono hle ha) (VRL.mono hle hb)
  | _, _, .iface t v v' h => .iface t v v' (VR.mono hle h)
  | _, _, .agg l l' h => .agg l l' (VRL.mono hle h)
  | _, _, .tuple l l' h => .tuple l l' (VRL.mono hle h)
theorem VRL.mono {ρ ρ' : Ren} (hle : ρ.le ρ') : ∀ {l l' : List Value}, VRL ρ l l' → VRL ρ' l l'
  | _, _, .nil => .nil
  | _, _, .cons v v' l l' h hl => .cons v v' l l' (VR.mono hle h) (VRL.mono hle hl)
end

theorem VRL.length {ρ : Ren} : ∀ {l l' : List Value}, VRL ρ l l' → l.length = l'.length
  | _, _, .nil => rfl
  | _, _, .cons _ _ _ _ _ hl => by simp [VRL.length hl]
theorem VRL.get {ρ : Ren} : ∀ {l l' : List Value}, VRL ρ l l' → ∀ (i : Nat) (v : Value), l[i]? = some v → ∃ v', l'[i]? = some v' ∧ VR ρ v v'
  | _, _, .nil, i, v, h => by simp at h
  | _, _, .cons x x' l l' hx hl, 0, v, h => by simp at h; subst h; exact ⟨x', by simp, hx⟩
  | _, _, .cons x x' l l' hx hl, i + 1, v, h => by simp at h; simpa using VRL.get hl i v h
theorem VRL.of_get {ρ : Ren} : ∀ {l l' : List Value}, l.length = l'.length → (∀ (i : Nat) (v v' : Value), l[i]? = some v → l'[i]? = some v' → VR ρ v v') → VRL ρ l l'
  | [], [], _, _ => .nil
  | [], _ :: _, h, _ => by simp at h
  | _ :: _, [], h, _ => by simp at h
  | x :: l, x' :: l', h, hh => .cons x x' l l' (hh 0 x x' (by simp) (by simp)) (VRL.of_get (by simpa using h) fun i v v' h1 h2 => hh (i + 1) v v' (by simpa using h1) (by simpa using h2))
theorem VRL.append {ρ : Ren} : ∀ {a a' b b' : List Value}, VRL ρ a a' → VRL ρ b b' → VRL ρ (a ++ b) (a' ++ b')
  | _, _, _, _, .nil, h => h
  | _, _, _, _, .cons v v' l l' hv hl, h => .cons v v' _ _ hv (VRL.append hl h)
theorem VRL.drop {ρ : Ren} : ∀ (n : Nat) {a a' : List Value}, VRL ρ a a' → VRL ρ (a.drop n) (a'.drop n)
  | 0, _, _, h => by simpa using h
  | n + 1, _, _, .nil => by simpa using VRL.nil
  | n + 1, _, _, .cons _ _ _ _ _ hl => by simpa using VRL.drop n hl
theorem VRL.take {ρ : Ren} : ∀ (n : Nat) {a a' : List Value}, VRL ρ a a' → VRL ρ (a.take n) (a'.take n)
  | 0, _, _, _ => by simpa using VRL.nil
  | n + 1, _, _, .nil => by simpa using VRL.nil
  | n + 1, _, _, .cons v v' l l' hv hl => by simpa using VRL.cons v v' _ _ hv (VRL.take n hl)

/-- Cells, from a place of a real block on. -/
def VRAt (ρ : Ren) (cs : List Value) (ccs : Array Value) (base : Nat) : Prop := ∀ i v, cs[i]? = some v → ∃ v', ccs[base + i]? = some v' ∧ VR ρ v v'
theorem VRAt.mono {ρ ρ' : Ren} (hle : ρ.le ρ') {cs : List Value} {ccs : Array Value} {base : Nat} (h : VRAt ρ cs ccs base) : VRAt ρ' cs ccs base := fun i v hv =>
  let ⟨v', h1, h2⟩ := h i v hv
  ⟨v', h1, h2.mono hle⟩

/-- A map's entries: each was born at its place. -/
inductive VRE (ρ : Ren) : Nat → List (Value × Value) → List MapEntry → Prop
  | nil (i : Nat) : VRE ρ i [] []
  | cons (i : Nat) (k k' v v' : Value) (l : List (Value × Value)) (l' : List MapEntry) (hk : VR ρ k k') (hv : VR ρ v v') (hl : VRE ρ (i + 1) l l') : VRE ρ i ((k, v) :: l) (⟨k', v', i⟩ :: l')
theorem VRE.mono {ρ ρ' : Ren} (hle : ρ.le ρ') : ∀ {i : Nat} {l : List (Value × Value)} {l' : List MapEntry}, VRE ρ i l l' → VRE ρ' i l l'
  | _, _, _, .nil i => .nil i
  | _, _, _, .cons i k k' v v' l l' hk hv hl => .cons i k k' v v' l l' (hk.mono hle) (hv.mono hle) (VRE.mono hle hl)

/-- A real block holds an abstract one. -/
def BR (P : Program) (ρ : Ren) (l : Loc) (w : World) : Blk → Prop
  | .cells cs e rw => ∃ ccs ce fr, w.heap[l.blk]? = some (.cells ccs ce fr) ∧ ccs.size = l.total ∧ P.cellsOf e = l.esz ∧ (rw = true → fr = (0, 0)) ∧ VRAt ρ cs ccs l.base
  | .map es => ∃ ces, w.heap[l.blk]? = some (.map ces es.length) ∧ VRE ρ 0 es ces.toList

def Blk.own : Blk → Bool
  | .cells _ _ rw => rw
  | .map _ => true

structure Sim (P : Program) (ρ : Ren) (H : Heap) (w : World) : Prop where
  fresh : ∀ b, H.next ≤ b → ρ b = none
  dom : ∀ b l, ρ b = some l → l.blk < w.heap.size
  blks : ∀ b l x, ρ b = some l → H.at b = some x → BR P ρ l w x
  excl : ∀ b b' l l' x x', b ≠ b' → ρ b = some l → ρ b' = some l' → H.at b = some x → H.at b' = some x' → x.own = true → l.blk ≠ l'.blk
  clean : ∀ b, H.next ≤ b → H.at b = none

/-- The real blocks that are known. -/
def Live (ρ : Ren) (H : Heap) (c : Nat) : Prop := ∃ b l x, ρ b = some l ∧ H.at b = some x ∧ l.blk = c

/-- The real blocks that may be written. -/
def Own (ρ : Ren) (H : Heap) (c : Nat) : Prop := ∃ b l x, ρ b = some l ∧ H.at b = some x ∧ x.own = true ∧ l.blk = c

/-- What a step leaves alone. -/
structure Stp (ρ : Ren) (H : Heap) (w : World) (ρ' : Ren) (H' : Heap) (w' : World) : Prop where
  le : ρ.le ρ'
  next : H.next ≤ H'.next
  os : w'.os = w.os
  tape : w'.tape = w.tape
  output : w'.output = w.output
  size : w.heap.size ≤ w'.heap.size
  frame : ∀ c, c < w.heap.size → ¬ Own ρ H c → w'.heap[c]? = w.heap[c]?
  own : ∀ c, c < w.heap.size → Own ρ' H' c → Own ρ H c
  live : ∀ c, c < w.heap.size → Live ρ' H' c → Live ρ H c
  new : ∀ b l, ρ b = none → ρ' b = some l → H.next ≤ b

theorem Stp.refl (ρ : Ren) (H : Heap) (w : World) : Stp ρ H w ρ H w :=
  ⟨ρ.le_refl, Nat.le_refl _, rfl, rfl, rfl, Nat.le_refl _, fun _ _ _ => rfl, fun _ _ h => h, fun _ _ h => h, fun b l h h' => by rw [h] at h'; cases h'⟩
theorem Stp.trans {ρ ρ1 ρ2 : Ren} {H H1 H2 : Heap} {w w1 w2 : World} (a : Stp ρ H w ρ1 H1 w1) (b : Stp ρ1 H1 w1 ρ2 H2 w2) : Stp ρ H w ρ2 H2 w2 where
  le := Ren.le_trans a.le b.le
  next := Nat.le_trans a.next b.next
  os := b.os.trans a.os
  tape := b.tape.trans a.tape
  output := b.output.trans a.output
  size := Nat.le_trans a.size b.size
  frame := fun c hc hn => (b.frame c (Nat.lt_of_lt_of_le hc a.size) (fun h => hn (a.own c hc h))).trans (a.frame c hc hn)
  own := fun c hc h => a.own c hc (b.own c (Nat.lt_of_lt_of_le hc a.size) h)
  live := fun c hc h => a.live c hc (b.live c (Nat.lt_of_lt_of_le hc a.size) h)
  new := fun x l h h' => by
    cases h1 : ρ1 x with
    | none => exact Nat.le_trans a.next (b.new x l h1 h')
    | some l1 => exact a.new x l1 h h1

end Go.Rx
