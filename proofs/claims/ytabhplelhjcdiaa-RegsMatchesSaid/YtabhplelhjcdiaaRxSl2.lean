/- What a step changes: one block; shifts; texts out of bytes; maps by texts. -/
import Derived.Test.YtabhplelhjcdiaaRxSl
/- What a step changes: one block; shifts; texts out of bytes; maps by texts. -/
set_option linter.unusedVariables false
set_option linter.unusedSimpArgs false
namespace Go.Rx
noncomputable section

variable {M : Mach}

/-- At most block w has changed (and blocks more). -/
structure Chg (w : Nat) (h h' : Heap) : Prop where
  next : h.next ≤ h'.next
  at_ : ∀ b, b < h.next → b ≠ w → h'.at b = h.at b
theorem Chg.refl (w : Nat) (h : Heap) : Chg w h h := ⟨Nat.le_refl _, fun _ _ _ => rfl⟩
theorem Chg.trans {w : Nat} {a b c : Heap} (h : Chg w a b) (h' : Chg w b c) : Chg w a c := ⟨Nat.le_trans h.next h'.next, fun x hx hne => by rw [h'.at_ x (Nat.lt_of_lt_of_le hx h.next) hne]; exact h.at_ x hx hne⟩
theorem Grow.chg {h h' : Heap} (g : Grow h h') (w : Nat) : Chg w h h' := ⟨g.1, fun b hb _ => g.2 b hb⟩
theorem Chg.set {h : Heap} {w : Nat} {x : Option Blk} : Chg w h (h.set w x) := ⟨Nat.le_refl _, fun b _ hne => at_set_ne (Ne.symm hne)⟩
theorem Chg.new {h h' : Heap} {w : Nat} {x : Blk} (c : Chg w h h') : Chg w h (h'.new x) := ⟨by rw [Heap.next_new]; have := c.next; omega, fun b hb hne => by rw [at_new_lt (by have := c.next; omega)]; exact c.at_ b hb hne⟩
theorem Grow.then {h0 h h' : Heap} {w : Nat} (g : Grow h0 h) (c : Chg w h h') (hw : w = 0 ∨ h0.next ≤ w) (h00 : 1 ≤ h0.next) (hz : h'.at 0 = h.at 0) : Grow h0 h' :=
  ⟨Nat.le_trans g.1 c.next, fun b hb => by
    by_cases h0 : b = 0
    · rw [h0, hz]; rw [← g.2 0 (by omega)]
    · rw [c.at_ b (by have := g.1; omega) (by omega)]; exact g.2 b hb⟩
/-- As Grow, but for a block of one's own (never block 0). -/
structure GrowP (h h' : Heap) : Prop where
  next : h.next ≤ h'.next
  at_ : ∀ b, 1 ≤ b → b < h.next → h'.at b = h.at b
theorem GrowP.refl (h : Heap) : GrowP h h := ⟨Nat.le_refl _, fun _ _ _ => rfl⟩
theorem Grow.p {h h' : Heap} (g : Grow h h') : GrowP h h' := ⟨g.1, fun b _ hb => g.2 b hb⟩
theorem GrowP.trans {a b c : Heap} (h : GrowP a b) (h' : GrowP b c) : GrowP a c := ⟨Nat.le_trans h.next h'.next, fun x hx hx2 => by rw [h'.at_ x hx (Nat.lt_of_lt_of_le hx2 h.next)]; exact h.at_ x hx hx2⟩
theorem GrowP.chg {h0 h h' : Heap} {w : Nat} (g : GrowP h0 h) (c : Chg w h h') (hw : w = 0 ∨ h0.next ≤ w) : GrowP h0 h' :=
  ⟨Nat.le_trans g.next c.next, fun b h1 hb => by rw [c.at_ b (by have := g.next; omega) (by omega)]; exact g.at_ b h1 hb⟩
theorem GrowP.new {h0 h : Heap} {x : Blk} (g : GrowP h0 h) : GrowP h0 (h.new x) := ⟨by rw [Heap.next_new]; have := g.next; omega, fun b h1 hb => by rw [at_new_lt (by have := g.next; omega)]; exact g.at_ b h1 hb⟩
theorem GrowP.new1 {h h' : Heap} {x : Blk} (g : GrowP (h.new x) h') : GrowP h h' := ((GrowP.refl h).new).trans g
theorem GrowP.c {h h' : Heap} (g : GrowP h h') : Chg 0 h h' := ⟨g.next, fun b hb h0 => g.at_ b (by omega) hb⟩

theorem SlV.chg {h h' : Heap} {w : Nat} {v : Value} {vs : List Value} (hs : SlV h v vs) (c : Chg w h h') (hne : bno v ≠ w ∨ bno v = 0) : SlV h' v vs :=
  hs.keep c.next fun h0 => c.at_ _ hs.1 (by omega)
theorem OwnV.chg {h h' : Heap} {w : Nat} {t : TypeId} {v : Value} {vs : List Value} (hs : OwnV h t v vs) (c : Chg w h h') (hne : bno v ≠ w ∨ bno v = 0) : OwnV h' t v vs :=
  hs.keep c.next fun h0 => c.at_ _ hs.1 (by omega)
theorem SlV.gp {h h' : Heap} {v : Value} {vs : List Value} (hs : SlV h v vs) (g : GrowP h h') : SlV h' v vs := hs.chg g.c (by omega)
theorem OwnV.gp {h h' : Heap} {t : TypeId} {v : Value} {vs : List Value} (hs : OwnV h t v vs) (g : GrowP h h') : OwnV h' t v vs := hs.chg g.c (by omega)

/-- append(xs, x), as a change. -/
theorem WI_app1c {h : Heap} {t : TypeId} {v x : Value} {vs : List Value} {bytes : Nat} (h1 : 1 ≤ h.next) (ho : OwnV h t v vs) (hx : isAggV x = false) (hb : (vs.length + 1) * (bytes + 1) ≤ 140737488355328) {d : Option Nat} {l : List GI} {e : Env} {K : KB}
    (hk : ∀ v' h', OwnV h' t v' (vs ++ [x]) → Chg (bno v) h h' → (bno v' = bno v ∨ h.next ≤ bno v') → WI M (some (v', h')) d l e K) :
    WI M (appV (h.new (.cells [x] t true)) t 1 bytes v (.slice (some ⟨h.next, 0, none⟩) 1 1)) d l e K :=
  WI_app1 h1 ho hx hb fun v' h' a b c d => hk v' h' a ⟨b, c⟩ d
theorem WI_appsc {h : Heap} {t : TypeId} {v y : Value} {vs ws : List Value} {bytes : Nat} (h1 : 1 ≤ h.next) (ho : OwnV h t v vs) (hy : SlV h y ws) (hx : ∀ x ∈ ws, isAggV x = false) (hb : (vs.length + ws.length) * (bytes + 1) ≤ 140737488355328) {d : Option Nat} {l : List GI} {e : Env} {K : KB}
    (hk : ∀ v' h', OwnV h' t v' (vs ++ ws) → Chg (bno v) h h' → (bno v' = bno v ∨ h.next ≤ bno v') → WI M (some (v', h')) d l e K) :
    WI M (appV h t 1 bytes v y) d l e K :=
  WI_apps h1 ho hy hx hb fun v' h' a b c d => hk v' h' a ⟨b, c⟩ d
theorem WI_storec {h : Heap} {t : TypeId} {v : Value} {vs : List Value} (ho : OwnV h t v vs) {i : Nat} {x : Value} (hi : i < vs.length) (hx : isAggV x = false) {l : List GI} {e : Env} {K : KB}
    (hk : ∀ h', OwnV h' t v (vs.set i x) → Chg (bno v) h h' → WB M l e h' K) : WI M (iStore 1 (elP v i) x h) none l e K :=
  WI_store ho hi hx fun h' a b c => hk h' a ⟨Nat.le_of_eq b.symm, fun x _ hne => c x hne⟩
theorem WI_makec {h : Heap} {t : TypeId} {sz bytes : Nat} {z : Value} {k k' : IntKind} {n m : Int} (h1 : 1 ≤ h.next) (h0 : 0 ≤ n) (hnm : n ≤ m) (hb : m * bytes ≤ 140737488355328) (hm : m ≤ 9223372036854775807) (hs : sz ≠ 0) {d : Option Nat} {l : List GI} {e : Env} {K : KB}
    (hk : ∀ v' h', OwnV h' t v' (List.replicate n.toNat z) → GrowP h h' → h.next ≤ bno v' → WI M (some (v', h')) d l e K) : WI M (iMks t sz bytes [z] (.int k n) (.int k' m) h) d l e K :=
  WI_make h1 h0 hnm hb hm hs fun v' h' a b c d => hk v' h' a ⟨Nat.le_of_lt b, fun x _ hx => c x hx⟩ d

/-! ### Lists of values that stand for lists -/
theorem ints_set {l : List Int} {k : IntKind} {i : Nat} {x : Int} : (l.map (Value.int k)).set i (.int k x) = (l.set i x).map (Value.int k) := by rw [List.map_set]
theorem bools_set {l : List Bool} {i : Nat} {x : Bool} : (l.map Value.bool).set i (.bool x) = (l.set i x).map Value.bool := by rw [List.map_set]
theorem ints_app {l : List Int} {k : IntKind} {x : Int} : l.map (Value.int k) ++ [.int k x] = (l ++ [x]).map (Value.int k) := by simp
theorem ints_rep {n : Nat} {k : IntKind} {x : Int} : List.replicate n (Value.int k x) = (List.replicate n x).map (Value.int k) := by simp
theorem bools_rep {n : Nat} {x : Bool} : List.replicate n (Value.bool x) = (List.replicate n x).map Value.bool := by simp
theorem getD_set {α : Type} {l : List α} {i j : Nat} {x d : α} (hi : i < l.length) : (l.set i x).getD j d = if i = j then x else l.getD j d := by
  rw [List.getD_eq_getElem?_getD, List.getElem?_set, List.getD_eq_getElem?_getD]
  by_cases h : i = j
  · subst h; simp [hi]
  · simp [h]
theorem getD_app {α : Type} {l : List α} {j : Nat} {x d : α} : (l ++ [x]).getD j d = if j < l.length then l.getD j d else if j = l.length then x else d := by
  rw [List.getD_eq_getElem?_getD, List.getD_eq_getElem?_getD, List.getElem?_append]
  by_cases h : j < l.length
  · simp [h]
  · rw [if_neg h, if_neg h]
    by_cases h2 : j = l.length
    · subst h2; simp
    · rw [if_neg h2, List.getElem?_eq_none (by simp; omega)]; rfl
theorem getD_rep {α : Type} {n j : Nat} {x d : α} (h : j < n) : (List.replicate n x).getD j d = x := by
  rw [List.getD_eq_getElem?_getD, List.getElem?_replicate, if_pos h]; rfl
theorem getD_map {α β : Type} {l : List α} {f : α → β} {i : Nat} {d : β} {d' : α} (h : i < l.length) : (l.map f).getD i d = f (l.getD i d') := by
  rw [List.getD_eq_getElem?_getD, List.getElem?_map, List.getElem?_eq_getElem h, List.getD_eq_getElem?_getD, List.getElem?_eq_getElem h]; rfl

/-! ### Shifts -/
theorem binV_shr0 {k k' : IntKind} {x y : Int} (hx : 0 ≤ x) (hy : 0 ≤ y) (hk : y ≤ k.bits) : binV .shr (.int k x) (.int k' y) = some (.int k (x / (2 : Int) ^ y.toNat)) := by
  obtain ⟨a, rfl⟩ := Int.eq_ofNat_of_zero_le hx
  obtain ⟨b, rfl⟩ := Int.eq_ofNat_of_zero_le hy
  show (bif ltI (b : Int) 0 then none else some (Value.int k (Int.rec (fun a => .ofNat (Nat.shiftRight a (min (b : Int).toNat k.bits))) (fun _ => (a : Int).fdiv (2 ^ (min (b : Int).toNat k.bits))) (a : Int)))) = _
  rw [ltI_eq, decide_eq_false (by omega)]
  simp only [cond_false]
  show some (Value.int k (Int.ofNat (a >>> (min (b : Int).toNat k.bits)))) = _
  rw [Nat.min_eq_left (by omega), Int.toNat_natCast, Nat.shiftRight_eq_div_pow]
  simp

theorem binV_shr {k' : IntKind} {x y : Int} (hx : 0 ≤ x) (hy : 0 ≤ y) (hk : y ≤ 64) : binV .shr (.int .i64 x) (.int k' y) = some (.int .i64 (x / (2 : Int) ^ y.toNat)) := binV_shr0 hx hy hk
/-! ### Texts out of bytes -/
def toK (l : List Int) : List UInt8 := l.map fun n => UInt8.ofNat n.toNat
theorem strOf_bytes : ∀ (l : List Int), strOf (l.map (.int .u8)) = some (toK l)
  | [] => rfl
  | x :: l => by
    show (match strOf (l.map (.int .u8)) with | some r => some (UInt8.ofNat x.toNat :: r) | none => none) = _
    rw [strOf_bytes l]; rfl
theorem toK_inj : ∀ {a b : List Int}, (∀ x ∈ a, 0 ≤ x ∧ x < 256) → (∀ x ∈ b, 0 ≤ x ∧ x < 256) → toK a = toK b → a = b
  | [], [], _, _, _ => rfl
  | x :: a, y :: b, ha, hb, h => by
    simp only [toK, List.map_cons, List.cons.injEq] at h
    have h1 := ha x (by simp)
    have h2 := hb y (by simp)
    have h3 := congrArg UInt8.toNat h.1
    simp only [UInt8.toNat_ofNat'] at h3
    have : x = y := by omega
    rw [this, toK_inj (fun z hz => ha z (by simp [hz])) (fun z hz => hb z (by simp [hz])) h.2]
  | [], _ :: _, _, _, h => by simp [toK] at h
  | _ :: _, [], _, _, h => by simp [toK] at h
theorem iB2s_sl {h : Heap} {v : Value} {l : List Int} (hs : SlV h v (l.map (.int .u8))) : iB2s v h = some (vstr (toK l), h) := by
  obtain ⟨_, ⟨rfl, h2⟩ | ⟨b, off, sp, c, cs, e, rw', rfl, hb1, h3, h4, h5⟩⟩ := hs
  · have : l = [] := by simpa using h2
    subst this; rfl
  · show (match rdB off (l.map (Value.int .u8)).length (h.at b) with
      | some l => (match strOf l with | some s => some (vstr s, h) | none => none)
      | none => none) = _
    have : cut cs off (l.map (Value.int .u8)).length = some (l.map (Value.int .u8)) := by
      rw [cut_ok h4]
      congr 1
      apply List.ext_getElem?
      intro i
      rw [List.getElem?_take]
      split
      · rename_i hi
        rw [List.getElem?_drop, h5 i hi]
      · rename_i hi
        rw [List.getElem?_eq_none (by omega)]
    rw [h3, rdB_cells, this]
    simp only [strOf_bytes]

/-! ### Maps from texts to ints -/
def mpE (p : List UInt8 × Int) : Value × Value := (vstr p.1, .int .i64 p.2)
def lkp : List (List UInt8 × Int) → List UInt8 → Option Int
  | [], _ => none
  | (k, n) :: r, q => if q = k then some n else lkp r q
theorem findK_mp (k : List UInt8) : ∀ (ps : List (List UInt8 × Int)) (i : Nat), ∃ j, findK false [2] (vstr k) (ps.map mpE) i = some ((lkp ps k).map fun n => (j, .int .i64 n))
  | [], i => ⟨0, rfl⟩
  | (q, n) :: r, i => by
    obtain ⟨j, hj⟩ := findK_mp k r (i + 1)
    have e : keyEq false [2] (vstr k) (vstr q) = some (k == q) := by
      show some (eqBytes k q) = _
      rw [eqBytes_eq]
    by_cases h : k = q
    · subst h
      refine ⟨i, ?_⟩
      show (match keyEq false [2] (vstr k) (vstr k) with | some true => some (some (i, Value.int .i64 n)) | some false => findK false [2] (vstr k) (r.map mpE) (i + 1) | none => none) = _
      rw [e]
      simp [lkp]
    · refine ⟨j, ?_⟩
      show (match keyEq false [2] (vstr k) (vstr q) with | some true => some (some (i, Value.int .i64 n)) | some false => findK false [2] (vstr k) (r.map mpE) (i + 1) | none => none) = _
      rw [e, show (k == q) = false from by simpa using h]
      simp only [hj, lkp, if_neg h]
theorem look_some {h : Heap} {r : Nat} {ps : List (List UInt8 × Int)} (hb : h.at r = some (.map (ps.map mpE))) {k : List UInt8} {n : Int} (hl : lkp ps k = some n) :
    iLook false [2] (.int .i64 0) true (.map (some r)) (vstr k) h = some (.tuple ⟨[.int .i64 n, .bool true]⟩, h) := by
  obtain ⟨j, hj⟩ := findK_mp k ps 0
  unfold iLook mapE
  simp only [hb, hj, hl, Option.map_some, cond_true]
theorem look_none {h : Heap} {r : Nat} {ps : List (List UInt8 × Int)} (hb : h.at r = some (.map (ps.map mpE))) {k : List UInt8} (hl : lkp ps k = none) :
    iLook false [2] (.int .i64 0) true (.map (some r)) (vstr k) h = some (.tuple ⟨[.int .i64 0, .bool false]⟩, h) := by
  obtain ⟨j, hj⟩ := findK_mp k ps 0
  unfold iLook mapE
  simp only [hb, hj, hl, Option.map_none, cond_true]
theorem mset_none {h : Heap} {r : Nat} {ps : List (List UInt8 × Int)} (hb : h.at r = some (.map (ps.map mpE))) {k : List UInt8} {n : Int} (hl : lkp ps k = none) :
    iMset false [2] (.map (some r)) (vstr k) (.int .i64 n) h = some (undef, h.set r (some (.map ((ps ++ [(k, n)]).map mpE)))) := by
  obtain ⟨j, hj⟩ := findK_mp k ps 0
  unfold iMset
  simp only [hb, hj, hl, Option.map_none]
  simp [mpE]
theorem lenm_map {h : Heap} {r : Nat} {es : List (Value × Value)} (hb : h.at r = some (.map es)) : iLenm (.map (some r)) h = some (.int .i64 es.length, h) := by
  unfold iLenm
  simp only [hb]
/-- The map gives the keys their numbers, one behind the other. -/
def Num (ps : List (List UInt8 × Int)) : Prop := ∀ (i : Nat) k n, ps[i]? = some (k, n) → n = i ∧ lkp ps k = some (i : Int)
theorem lkp_mem : ∀ {ps : List (List UInt8 × Int)} {k : List UInt8} {n : Int}, lkp ps k = some n → ∃ i : Nat, ps[i]? = some (k, n)
  | (q, m) :: r, k, n, h => by
    simp only [lkp] at h
    split at h
    · rename_i he; subst he; cases h; exact ⟨0, rfl⟩
    · obtain ⟨i, hi⟩ := lkp_mem h; exact ⟨i + 1, by simpa using hi⟩
theorem lkp_app {ps : List (List UInt8 × Int)} {k q : List UInt8} {n : Int} : lkp (ps ++ [(k, n)]) q = match lkp ps q with | some m => some m | none => if q = k then some n else none := by
  induction ps with
  | nil => rfl
  | cons p r ih =>
    obtain ⟨a, b⟩ := p
    simp only [List.cons_append, lkp]
    split
    · rfl
    · exact ih
theorem Num.nil : Num [] := fun i k n h => by simp at h
theorem Num.add {ps : List (List UInt8 × Int)} (hn : Num ps) {k : List UInt8} (hk : lkp ps k = none) : Num (ps ++ [(k, (ps.length : Int))]) := by
  intro i q m h
  rw [List.getElem?_append] at h
  split at h
  · rename_i hi
    obtain ⟨a, b⟩ := hn i q m h
    exact ⟨a, by rw [lkp_app, b]⟩
  · rename_i hi
    have : i = ps.length := by
      have := (List.getElem?_eq_some_iff.1 h).1
      simp at this; omega
    subst this
    simp at h
    obtain ⟨rfl, rfl⟩ := h
    exact ⟨rfl, by rw [lkp_app, hk]; simp⟩
theorem Num.get {ps : List (List UInt8 × Int)} (hn : Num ps) {k : List UInt8} {n : Int} (hl : lkp ps k = some n) : 0 ≤ n ∧ n < ps.length ∧ ps[n.toNat]? = some (k, n) := by
  obtain ⟨i, hi⟩ := lkp_mem hl
  obtain ⟨a, b⟩ := hn i k n hi
  subst a
  have := (List.getElem?_eq_some_iff.1 hi).1
  exact ⟨by omega, by omega, by simpa using hi⟩
theorem Num.inj {ps : List (List UInt8 × Int)} (hn : Num ps) {k q : List UInt8} {n : Int} (h1 : lkp ps k = some n) (h2 : lkp ps q = some n) : k = q := by
  have a := (hn.get h1).2.2
  have b := (hn.get h2).2.2
  rw [a] at b
  cases b; rfl

/-! ### Regions whose order is open -/
theorem rxt : type_of% (And.intro @WT_nil <| And.intro @WT_cons <| And.intro @WT_guard <| And.intro @WTG_true <| And.intro @WTG_false <| And.intro @WTI_some <| And.intro @WTI_none <| And.intro @WTI_call <| And.intro @WTI_calld <| And.intro @CallKT_some <| @CallKT_none) :=
  And.intro @WT_nil <| And.intro @WT_cons <| And.intro @WT_guard <| And.intro @WTG_true <| And.intro @WTG_false <| And.intro @WTI_some <| And.intro @WTI_none <| And.intro @WTI_call <| And.intro @WTI_calld <| And.intro @CallKT_some <| @CallKT_none
theorem sameA_int {k : IntKind} {n : Int} : sameA (.int k n) (.int k n) = true := by
  show (sameKind k k && eqI n n) = true
  rw [sameKind_eq, eqI_eq]; simp
theorem sameA_ptr {a : Addr} : sameA (.pointer (some a)) (.pointer (some a)) = true := by
  show (Nat.beq a.block a.block && Nat.beq a.off a.off && a.spot == a.spot) = true
  simp [beq_t]
theorem sameA_sl {h : Heap} {v : Value} {vs : List Value} (hs : SlV h v vs) : sameA v v = true := by
  obtain ⟨_, ⟨rfl, _⟩ | ⟨b, off, sp, c, cs, e, rw', rfl, _⟩⟩ := hs
  · rfl
  · show (Nat.beq b b && Nat.beq off off && sp == sp && Nat.beq vs.length vs.length && Nat.beq c c) = true
    simp [beq_t]
theorem SlV.oneC {h : Heap} {v : Value} {vs : List Value} (hs : SlV h v vs) : OneC v := by
  obtain ⟨_, ⟨rfl, _⟩ | ⟨b, off, sp, c, cs, e, rw', rfl, _⟩⟩ := hs <;> rfl

end
end Go.Rx
