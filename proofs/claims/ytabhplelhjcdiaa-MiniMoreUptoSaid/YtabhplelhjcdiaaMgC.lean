/- Contracts of functions of the given program, over the abstract machine. -/
import Derived.Test.YtabhplelhjcdiaaMgB
namespace Go.Rx
variable {M : Mach}
set_option maxRecDepth 4000
set_option linter.unusedSimpArgs false
set_option linter.unusedVariables false

def tabC (vy : Value) (pl : List Int) (vn vr : Value) (s : Int) : List Value := vy :: (pl.map (.int .i64) ++ [vn, vr, .int .i64 s])
section
variable {vy vn vr x : Value} {pl : List Int} {s : Int}
theorem tabC_len (hp : pl.length = 256) : (tabC vy pl vn vr s).length = 260 := by simp [tabC, hp]
theorem tabC_0 : (tabC vy pl vn vr s)[0]? = some vy := rfl
theorem tabC_257 (hp : pl.length = 256) : (tabC vy pl vn vr s)[257]? = some vn := by
  show (pl.map (Value.int .i64) ++ [vn, vr, .int .i64 s])[256]? = some vn
  rw [List.getElem?_append_right (by simp [hp])]; simp [hp]
theorem tabC_258 (hp : pl.length = 256) : (tabC vy pl vn vr s)[258]? = some vr := by
  show (pl.map (Value.int .i64) ++ [vn, vr, .int .i64 s])[257]? = some vr
  rw [List.getElem?_append_right (by simp [hp])]; simp [hp]
theorem tabC_259 (hp : pl.length = 256) : (tabC vy pl vn vr s)[259]? = some (.int .i64 s) := by
  show (pl.map (Value.int .i64) ++ [vn, vr, .int .i64 s])[258]? = some (.int .i64 s)
  rw [List.getElem?_append_right (by simp [hp])]; simp [hp]
theorem tabC_set257 (hp : pl.length = 256) : (tabC vy pl vn vr s).set 257 x = tabC vy pl x vr s := by
  show vy :: (pl.map (Value.int .i64) ++ [vn, vr, .int .i64 s]).set 256 x = _
  rw [List.set_append_right _ _ (by simp [hp])]; simp [hp, tabC]
theorem tabC_set258 (hp : pl.length = 256) : (tabC vy pl vn vr s).set 258 x = tabC vy pl vn x s := by
  show vy :: (pl.map (Value.int .i64) ++ [vn, vr, .int .i64 s]).set 257 x = _
  rw [List.set_append_right _ _ (by simp [hp])]; simp [hp, tabC]
theorem tabC_setp (hp : pl.length = 256) {i : Nat} (hi : i < 256) {y : Int} : (tabC vy pl vn vr s).set (1 + i) (.int .i64 y) = tabC vy (pl.set i y) vn vr s := by
  rw [Nat.add_comm]
  show vy :: (pl.map (Value.int .i64) ++ [vn, vr, .int .i64 s]).set i (.int .i64 y) = _
  rw [List.set_append_left _ _ (by simp [hp, hi]), ← List.map_set]; rfl
end

/-- A pointer to a block. -/
abbrev pB (b : Nat) : Value := .pointer (some ⟨b, 0, none⟩)

structure TabV (h : Heap) (n0 tb : Nat) (vy vn vr : Value) (us : List Value) (bs : List Int) (pl : List Int) (T : List (List Int)) (Rl : List Int) (s : Int) : Prop where
  tab : h.at tb = some (.cells (tabC vy pl vn vr s) 84 true)
  lt : tb < h.next
  low : 1 ≤ tb
  pl : pl.length = 256
  oy : OwnV h 5 vy (bs.map (.int .u8))
  on : OwnV h 32 vn us
  or_ : OwnV h 3 vr (Rl.map (.int .i64))
  len : us.length = T.length
  row : ∀ i : Nat, i < T.length → OwnV h 3 (us.getD i undef) ((T.getD i []).map (.int .i64))
  sep : Sep (pB tb :: vy :: vn :: vr :: us)
  fresh : ∀ i : Nat, i < us.length + 4 → bno ((pB tb :: vy :: vn :: vr :: us).getD i undef) = 0 ∨ n0 ≤ bno ((pB tb :: vy :: vn :: vr :: us).getD i undef)

section
variable {h h' : Heap} {n0 tb : Nat} {vy vn vr : Value} {us : List Value} {bs pl Rl : List Int} {T : List (List Int)} {s : Int}
theorem TabV.lows (b : TabV h n0 tb vy vn vr us bs pl T Rl s) : ∀ j : Nat, j < (pB tb :: vy :: vn :: vr :: us).length → bno ((pB tb :: vy :: vn :: vr :: us).getD j undef) < h.next
  | 0, _ => b.lt
  | 1, _ => b.oy.1
  | 2, _ => b.on.1
  | 3, _ => b.or_.1
  | j + 4, hj => (b.row j (by rw [← b.len]; simpa using hj)).1
/-- Something else has changed. -/
theorem TabV.other (b : TabV h n0 tb vy vn vr us bs pl T Rl s) {w : Nat} (c : Chg w h h') (hw : ∀ i : Nat, i < us.length + 4 → bno ((pB tb :: vy :: vn :: vr :: us).getD i undef) = 0 ∨ bno ((pB tb :: vy :: vn :: vr :: us).getD i undef) ≠ w) : TabV h' n0 tb vy vn vr us bs pl T Rl s := by
  have h0 : tb ≠ w := by
    have := hw 0 (by omega)
    have e : bno (pB tb) = tb := rfl
    simp only [List.getD_cons_zero, e] at this
    have := b.low; omega
  refine ⟨by rw [c.at_ tb b.lt h0]; exact b.tab, Nat.lt_of_lt_of_le b.lt c.next, b.low, b.pl, b.oy.chg c ?_, b.on.chg c ?_, b.or_.chg c ?_, b.len, fun i hi => (b.row i hi).chg c ?_, b.sep, b.fresh⟩
  · exact (hw 1 (by omega)).symm
  · exact (hw 2 (by omega)).symm
  · exact (hw 3 (by omega)).symm
  · exact (hw (i + 4) (by rw [b.len]; omega)).symm
theorem TabV.gp (b : TabV h n0 tb vy vn vr us bs pl T Rl s) (g : GrowP h h') : TabV h' n0 tb vy vn vr us bs pl T Rl s := b.other g.c (fun i _ => by omega)
/-- A new block is none of these. -/
theorem TabV.newer (b : TabV h n0 tb vy vn vr us bs pl T Rl s) {w : Nat} (hw : h.next ≤ w) : ∀ i : Nat, i < us.length + 4 → bno ((pB tb :: vy :: vn :: vr :: us).getD i undef) = 0 ∨ bno ((pB tb :: vy :: vn :: vr :: us).getD i undef) ≠ w :=
  fun i hi => by have := b.lows i (by simpa using hi); omega
theorem TabV.ne_tab (b : TabV h n0 tb vy vn vr us bs pl T Rl s) : ∀ i : Nat, i < us.length + 3 → bno ((vy :: vn :: vr :: us).getD i undef) ≠ tb ∨ bno ((vy :: vn :: vr :: us).getD i undef) = 0 := fun i hi => by
  by_cases e : bno ((vy :: vn :: vr :: us).getD i undef) = tb
  · exact .inr (b.sep (i + 1) 0 (by simp; omega) (by simp) (by omega) e)
  · exact .inl e
/-- The table's block itself changes: next, rule or place. -/
theorem TabV.tabbed (b : TabV h n0 tb vy vn vr us bs pl T Rl s) {pl' : List Int} (hp : pl'.length = 256) (c : Chg tb h h') (ht : h'.at tb = some (.cells (tabC vy pl' vn vr s) 84 true)) : TabV h' n0 tb vy vn vr us bs pl' T Rl s := by
  refine ⟨ht, Nat.lt_of_lt_of_le b.lt c.next, b.low, hp, b.oy.chg c (b.ne_tab 0 (by omega)), b.on.chg c (b.ne_tab 1 (by omega)), b.or_.chg c (b.ne_tab 2 (by omega)), b.len, fun i hi => (b.row i hi).chg c (b.ne_tab (i + 3) (by rw [b.len]; omega)), b.sep, b.fresh⟩

theorem sep_ne {l : List Value} (hs : Sep l) {i j : Nat} (hi : i < l.length) (hj : j < l.length) (hij : i ≠ j) : bno (l.getD i undef) ≠ bno (l.getD j undef) ∨ bno (l.getD i undef) = 0 := by
  by_cases e : bno (l.getD i undef) = bno (l.getD j undef)
  · exact .inr (hs i j hi hj hij e)
  · exact .inl e
theorem sep_snoc {l : List Value} (hs : Sep l) {u : Value} (hu : ∀ i : Nat, i < l.length → bno (l.getD i undef) = 0 ∨ bno (l.getD i undef) ≠ bno u) : Sep (l ++ [u]) := by
  intro i j hi hj hij he
  rw [List.length_append, List.length_singleton] at hi hj
  rw [getD_app] at he ⊢
  rw [getD_app] at he
  by_cases h1 : i < l.length
  · rw [if_pos h1] at he ⊢
    by_cases h2 : j < l.length
    · rw [if_pos h2] at he
      exact hs i j h1 h2 hij he
    · rw [if_neg h2, if_pos (by omega)] at he
      have := hu i h1; omega
  · have hi' : i = l.length := by omega
    rw [if_neg h1, if_pos hi'] at he ⊢
    have h2 : j < l.length := by omega
    rw [if_pos h2] at he
    have := hu j h2; omega

/-- A row more: it is put behind next, and next is noted down. -/
theorem TabV.addRow (b : TabV h n0 tb vy vn vr us bs pl T Rl s) (hn : n0 ≤ h.next) {u : Value} {r : List Int} (ou : OwnV h 3 u (r.map (.int .i64))) (hu : ∀ i : Nat, i < us.length + 4 → bno ((pB tb :: vy :: vn :: vr :: us).getD i undef) = 0 ∨ bno ((pB tb :: vy :: vn :: vr :: us).getD i undef) ≠ bno u) (hu0 : n0 ≤ bno u)
    {h2 : Heap} {vn' : Value} (o : OwnV h' 32 vn' (us ++ [u])) (c : Chg (bno vn) h h') (f : bno vn' = bno vn ∨ h.next ≤ bno vn') (c2 : Chg tb h' h2) (ht : h2.at tb = some (.cells (tabC vy pl vn' vr s) 84 true)) :
    TabV h2 n0 tb vy vn' vr (us ++ [u]) bs pl (T ++ [r]) Rl s := by
  have hl := b.lows
  have sp := b.sep
  have hun : bno u < h.next := ou.1
  have z : ∀ i : Nat, i < us.length + 4 → i ≠ 2 → bno ((pB tb :: vy :: vn :: vr :: us).getD i undef) ≠ bno vn ∨ bno ((pB tb :: vy :: vn :: vr :: us).getD i undef) = 0 := fun i hi h2 => sep_ne sp (by simpa using hi) (by simp) (j := 2) h2
  have s1 : Sep (pB tb :: vy :: vn' :: vr :: us) := by
    have := sp.upd (i := 2) (v' := vn') (n := h.next) (by simp) hl f
    simpa using this
  have hu' : ∀ i : Nat, i < (pB tb :: vy :: vn' :: vr :: us).length → bno ((pB tb :: vy :: vn' :: vr :: us).getD i undef) = 0 ∨ bno ((pB tb :: vy :: vn' :: vr :: us).getD i undef) ≠ bno u := fun i hi => by
    have hi : i < us.length + 4 := by simpa using hi
    have q := hu i hi
    match i with
    | 0 => exact q
    | 1 => exact q
    | 2 =>
      have q : bno vn = 0 ∨ bno vn ≠ bno u := q
      show bno vn' = 0 ∨ bno vn' ≠ bno u
      omega
    | 3 => exact q
    | i + 4 => exact q
  have s2 : Sep (pB tb :: vy :: vn' :: vr :: (us ++ [u])) := by
    have := sep_snoc s1 hu'
    simpa using this
  have hvn2 : bno vn' ≠ tb ∨ bno vn' = 0 := sep_ne s2 (i := 2) (j := 0) (by simp) (by simp) (by decide)
  have hut : bno u ≠ tb ∨ bno u = 0 := by
    have := hu 0 (by omega)
    have e : bno (pB tb) = tb := rfl
    simp only [List.getD_cons_zero, e] at this
    have := b.low; omega
  refine ⟨ht, ?_, b.low, b.pl, ?_, o.chg c2 hvn2, ?_, by simp [b.len], fun i hi => ?_, s2, fun i hi => ?_⟩
  · have := b.lt; have := c.next; have := c2.next; omega
  · exact (b.oy.chg c (z 1 (by omega) (by decide))).chg c2 (b.ne_tab 0 (by omega))
  · exact (b.or_.chg c (z 3 (by omega) (by decide))).chg c2 (b.ne_tab 2 (by omega))
  · rw [List.length_append, List.length_singleton] at hi
    rw [getD_app, getD_app]
    by_cases hi2 : i < T.length
    · rw [if_pos (by rw [b.len]; exact hi2), if_pos hi2]
      exact ((b.row i hi2).chg c (z (i + 4) (by rw [b.len]; omega) (by omega))).chg c2 (b.ne_tab (i + 3) (by rw [b.len]; omega))
    · rw [if_neg (by rw [b.len]; exact hi2), if_neg hi2, if_pos (by rw [b.len]; omega), if_pos (by omega)]
      refine (ou.chg c ?_).chg c2 hut
      have := hu 2 (by omega)
      simp only [List.getD_cons_succ, List.getD_cons_zero] at this
      omega
  · rw [List.length_append, List.length_singleton] at hi
    have fr := b.fresh
    match i, hi with
    | 0, _ => exact fr 0 (by omega)
    | 1, _ => exact fr 1 (by omega)
    | 2, _ =>
      have q : bno vn = 0 ∨ n0 ≤ bno vn := fr 2 (by omega)
      show bno vn' = 0 ∨ n0 ≤ bno vn'
      omega
    | 3, _ => exact fr 3 (by omega)
    | i + 4, hi =>
      show bno ((us ++ [u]).getD i undef) = 0 ∨ n0 ≤ bno ((us ++ [u]).getD i undef)
      rw [getD_app]
      by_cases hi2 : i < us.length
      · rw [if_pos hi2]; exact fr (i + 4) (by omega)
      · rw [if_neg hi2, if_pos (by omega)]; exact .inr hu0
/-- A rule more. -/
theorem TabV.addRule (b : TabV h n0 tb vy vn vr us bs pl T Rl s) (hn : n0 ≤ h.next) {h2 : Heap} {vr' : Value} {Rl' : List Int} (o : OwnV h' 3 vr' (Rl'.map (.int .i64))) (c : Chg (bno vr) h h') (f : bno vr' = bno vr ∨ h.next ≤ bno vr') (c2 : Chg tb h' h2) (ht : h2.at tb = some (.cells (tabC vy pl vn vr' s) 84 true)) :
    TabV h2 n0 tb vy vn vr' us bs pl T Rl' s := by
  have hl := b.lows
  have sp := b.sep
  have z : ∀ i : Nat, i < us.length + 4 → i ≠ 3 → bno ((pB tb :: vy :: vn :: vr :: us).getD i undef) ≠ bno vr ∨ bno ((pB tb :: vy :: vn :: vr :: us).getD i undef) = 0 := fun i hi h2 => sep_ne sp (by simpa using hi) (by simp) (j := 3) h2
  have s1 : Sep (pB tb :: vy :: vn :: vr' :: us) := by
    have := sp.upd (i := 3) (v' := vr') (n := h.next) (by simp) hl f
    simpa using this
  have hvr2 : bno vr' ≠ tb ∨ bno vr' = 0 := sep_ne s1 (i := 3) (j := 0) (by simp) (by simp) (by decide)
  refine ⟨ht, ?_, b.low, b.pl, ?_, ?_, o.chg c2 hvr2, b.len, fun i hi => ?_, s1, fun i hi => ?_⟩
  · have := b.lt; have := c.next; have := c2.next; omega
  · exact (b.oy.chg c (z 1 (by omega) (by decide))).chg c2 (b.ne_tab 0 (by omega))
  · exact (b.on.chg c (z 2 (by omega) (by decide))).chg c2 (b.ne_tab 1 (by omega))
  · exact ((b.row i hi).chg c (z (i + 4) (by rw [b.len]; omega) (by omega))).chg c2 (b.ne_tab (i + 3) (by rw [b.len]; omega))
  · have fr := b.fresh
    match i, hi with
    | 0, _ => exact fr 0 (by omega)
    | 1, _ => exact fr 1 (by omega)
    | 2, _ => exact fr 2 (by omega)
    | 3, _ =>
      have q : bno vr = 0 ∨ n0 ≤ bno vr := fr 3 (by omega)
      show bno vr' = 0 ∨ n0 ≤ bno vr'
      omega
    | i + 4, hi => exact fr (i + 4) hi
/-- A row is written. -/
theorem TabV.setRow (b : TabV h n0 tb vy vn vr us bs pl T Rl s) {i : Nat} (hi : i < T.length) {r : List Int} (o : OwnV h' 3 (us.getD i undef) (r.map (.int .i64))) (c : Chg (bno (us.getD i undef)) h h') : TabV h' n0 tb vy vn vr us bs pl (T.set i r) Rl s := by
  have sp := b.sep
  have z : ∀ j : Nat, j < us.length + 4 → j ≠ i + 4 → bno ((pB tb :: vy :: vn :: vr :: us).getD j undef) ≠ bno (us.getD i undef) ∨ bno ((pB tb :: vy :: vn :: vr :: us).getD j undef) = 0 := fun j hj h2 => sep_ne sp (by simpa using hj) (by simp [b.len, hi]) (j := i + 4) h2
  have ht : tb ≠ bno (us.getD i undef) := by
    have := z 0 (by omega) (by omega)
    have e : bno (pB tb) = tb := rfl
    simp only [List.getD_cons_zero, e] at this
    have := b.low; omega
  refine ⟨by rw [c.at_ tb b.lt ht]; exact b.tab, Nat.lt_of_lt_of_le b.lt c.next, b.low, b.pl, b.oy.chg c (z 1 (by omega) (by omega)), b.on.chg c (z 2 (by omega) (by omega)), b.or_.chg c (z 3 (by omega) (by omega)), by simp [b.len], fun j hj => ?_, sp, b.fresh⟩
  rw [List.length_set] at hj
  rw [getD_set hi]
  by_cases e : i = j
  · subst e; rw [if_pos rfl]; exact o
  · rw [if_neg e]
    exact (b.row j hj).chg c (z (j + 4) (by rw [b.len]; omega) (by omega))
end
end Go.Rx

namespace Go.Rx
variable {M : Mach}
set_option maxRecDepth 4000
set_option linter.unusedSimpArgs false
set_option linter.unusedVariables false

def tnRow (cls bs : List Int) (row : List Int) : List Int := bs.map fun b => max (row.getD (cls.getD b.toNat 0).toNat 0) (-1)
def trimX (is : List Bool) (x : Int) : Int := if 0 ≤ x ∧ is.getD x.toNat false = false then -1 else x
def trimR (is : List Bool) (row : List Int) : List Int := row.map (trimX is)
theorem repsTo_range {cls : List Int} {n : Nat} {x : Int} (h : x ∈ repsTo cls n) : 0 ≤ x ∧ x < n := by
  unfold repsTo at h
  obtain ⟨a, ha, rfl⟩ := List.mem_map.1 h
  have := (List.mem_filter.1 ha).1
  rw [List.mem_range] at this
  show 0 ≤ (a : Int) ∧ (a : Int) < n
  omega
theorem ext_getD {α : Type} {a b : List α} (d : α) (hl : a.length = b.length) (h : ∀ i, i < a.length → a.getD i d = b.getD i d) : a = b := by
  apply List.ext_getElem hl
  intro i h1 h2
  have := h i h1
  rw [List.getD_eq_getElem?_getD, List.getD_eq_getElem?_getD, List.getElem?_eq_getElem h1, List.getElem?_eq_getElem h2] at this
  exact this
theorem tabC_set0 {vy vn vr x : Value} {pl : List Int} {s : Int} : (tabC vy pl vn vr s).set 0 x = tabC x pl vn vr s := rfl
theorem tabC_set259 {vy vn vr : Value} {pl : List Int} {s x : Int} (hp : pl.length = 256) : (tabC vy pl vn vr s).set 259 (.int .i64 x) = tabC vy pl vn vr x := by
  show vy :: (pl.map (Value.int .i64) ++ [vn, vr, .int .i64 s]).set 258 (.int .i64 x) = _
  rw [List.set_append_right _ _ (by simp [hp])]; simp [hp, tabC]
theorem tab_fill0 {vy vn vr x : Value} {pl : List Int} {s : Int} (hp : pl.length = 256) {e : Env} {r : List (Nat × Nat × Opd)} : fillQ e (tabC vy pl vn vr s) 0 (some [x]) r = fillP e (tabC x pl vn vr s) r := by
  rw [fillQ_one (by rw [tabC_len hp]; omega), tabC_set0]
theorem tab_fill259 {vy vn vr : Value} {pl : List Int} {s x : Int} (hp : pl.length = 256) {e : Env} {r : List (Nat × Nat × Opd)} : fillQ e (tabC vy pl vn vr s) 259 (some [.int .i64 x]) r = fillP e (tabC vy pl vn vr x) r := by
  rw [fillQ_one (by rw [tabC_len hp]; omega), tabC_set259 hp]
theorem tab0 : rl [(1, Value.slice none 0 0), (256, Value.int .i64 0), (2, Value.slice none 0 0), (1, Value.int .i64 0)] = tabC (.slice none 0 0) (List.replicate 256 0) (.slice none 0 0) (.slice none 0 0) 0 := by
  simp [rl, rep_eq, tabC]
theorem zeros256 : rl [(256, Value.int .i64 0)] = (List.replicate 256 0).map (.int .i64) := by
  simp [rl, rep_eq]

theorem OwnV.app1c {h : Heap} {t : TypeId} {v x : Value} {vs : List Value} {bytes : Nat} (h1 : 1 ≤ h.next) (ho : OwnV h t v vs) (hx : isAggV x = false) (hb : (vs.length + 1) * (bytes + 1) ≤ 140737488355328) :
    ∃ v' h', appV (h.new (.cells [x] t true)) t 1 bytes v (.slice (some ⟨h.next, 0, none⟩) 1 1) = some (v', h') ∧ OwnV h' t v' (vs ++ [x]) ∧ Chg (bno v) h h' ∧ (bno v' = bno v ∨ h.next ≤ bno v') := by
  obtain ⟨v', h', e1, e2, e3, e4, e5⟩ := (ho.gp (GrowP.refl h).new).app (new := [x]) (bytes := bytes) (by simp) (y := .slice (some ⟨h.next, 0, none⟩) 1 1) (by
    show (match rdB 0 (1 * 1) ((h.new (.cells [x] t true)).at h.next) with | some l => bif allOne l then some (l, 1) else none | none => none) = _
    rw [at_new_same, rdB_cells, cut_all (by simp)]
    simp only [allOne_of (l := [x]) (by simpa using hx), cond_true]
    rfl) (allOne_of (by simpa using hx)) (by simpa using hb)
  refine ⟨v', h', e1, e2, ⟨by simp at e3; omega, fun b hb hne => by rw [e4 b (by simp; omega) hne, at_new_lt hb]⟩, ?_⟩
  rcases e5 with h | h
  · exact .inl h
  · exact .inr (by simp at h; omega)
theorem take_map {l : List Int} {f : Int → Int} {i : Nat} (h : i < l.length) : (l.take (i + 1)).map f = (l.take i).map f ++ [f (l.getD i 0)] := by
  have : l.take (i + 1) = l.take i ++ [l.getD i 0] := by
    rw [List.take_add_one, List.getElem?_eq_getElem h, List.getD_eq_getElem?_getD, List.getElem?_eq_getElem h]; rfl
  rw [this, List.map_append]; rfl
theorem TabV.mono {h : Heap} {n0 n1 tb : Nat} {vy vn vr : Value} {us : List Value} {bs pl Rl : List Int} {T : List (List Int)} {s : Int} (b : TabV h n0 tb vy vn vr us bs pl T Rl s) (hn : n1 ≤ n0) : TabV h n1 tb vy vn vr us bs pl T Rl s :=
  ⟨b.tab, b.lt, b.low, b.pl, b.oy, b.on, b.or_, b.len, b.row, b.sep, fun i hi => by have := b.fresh i hi; omega⟩
theorem TabV.rows {h : Heap} {n0 tb : Nat} {vy vn vr : Value} {us : List Value} {bs pl Rl : List Int} {T : List (List Int)} {s : Int} (b : TabV h n0 tb vy vn vr us bs pl T Rl s) : Rows h (fun _ => True) vn us T :=
  ⟨b.on.sl, b.len, fun i hi => (b.row i hi).sl, fun _ _ => trivial⟩

theorem tabled_ok (hm : M.Mono) (hO70 : M.O 70 = none) (hF70 : M.F 70 = some A70) (hO71 : M.O 71 = none) (hF71 : M.F 71 = some A71) (hO72 : M.O 72 = none) (hF72 : M.F 72 = some A72) (hO : M.O 45 = none) (hF : M.F 45 = some A45)
  {v vn vr : Value} {us : List Value} {S : Nat → Prop} {d : DfaD} {h : Heap} {K : KF} (h1n : 1 ≤ h.next) (hd : DfaV h S v vn vr us d) (ok : Dok d)
  (hk : ∀ h' tb vy wn wr ws pl T (is : List Bool), TabV h' h.next tb vy wn wr ws (repsTo d.cls 256) pl T (d.rule.map fun x => max x (-1)) d.start → GrowP h h' → is.length = d.next.length →
    (∀ s : Nat, s < d.next.length → (is.getD s false = true ↔ Alv (d.next.map (tnRow d.cls (repsTo d.cls 256))) (d.rule.map fun x => max x (-1)) s)) → T.length = d.next.length →
    (∀ s : Nat, s < d.next.length → T.getD s [] = trimR is (tnRow d.cls (repsTo d.cls 256) (d.next.getD s []))) → K (pB tb) h') : WF M 45 [v] h K := by
  have hv := hd.val
  subst hv
  obtain ⟨k1, k2, k3, k4, k5, k6, k7, k8⟩ := ok
  obtain ⟨k9, k10⟩ := cls_bounds hd.cls hd.byte k7
  rw [WF_eqT 17 hO hF]
  simp (maxSteps := 2000000) (disch := first | omega | assumption | (simp only [oneC_int, oneC_bool, oneC_str, oneC_ptr, oneC_sl, oneC_map]; done) | (simp only [List.length_cons, List.length_nil, List.length_set, List.length_map, List.length_replicate, List.length_append, List.length_take, List.length_drop, Int.toNat_natCast] <;> omega) | fail) only [Go.Rx.vi, Go.Rx.vb, Go.Rx.vstr, rxc, rxo, Nat.reduceLeDiff, List.getElem?_cons_zero, List.getElem?_cons_succ, List.length_cons, List.length_nil, List.set_cons_zero, List.set_cons_succ, ↓reduceIte, Bool.not_true, Bool.not_false, true_and, and_true, not_true_eq_false, not_false_eq_true, decide_true, decide_false, Nat.reduceEqDiff, Nat.reduceAdd, Nat.reduceMul, Nat.reducePow, Int.reduceToNat, Int.reducePow, Nat.zero_add, Nat.mul_one, Int.toNat_natCast, A45, R45_0, dfaC_len hd.cls]
  obtain ⟨h1, e1, g1, n1, b1⟩ := boxed h (dfaC d.start d.cls vn vr) 34
  rw [e1]
  have d1 := hd.grow g1
  have hcd : cut (dfaC d.start d.cls vn vr) 0 259 = some (dfaC d.start d.cls vn vr) := cut_all (dfaC_len hd.cls)
  refine WC_regd hm ?_
  simp (maxSteps := 2000000) (disch := first | omega | assumption | (simp only [oneC_int, oneC_bool, oneC_str, oneC_ptr, oneC_sl, oneC_map]; done) | (simp only [List.length_cons, List.length_nil, List.length_set, List.length_map, List.length_replicate, List.length_append, List.length_take, List.length_drop, Int.toNat_natCast] <;> omega) | fail) only [Go.Rx.vi, Go.Rx.vb, Go.Rx.vstr, rxc, rxo, Nat.reduceLeDiff, List.getElem?_cons_zero, List.getElem?_cons_succ, List.length_cons, List.length_nil, List.set_cons_zero, List.set_cons_succ, ↓reduceIte, Bool.not_true, Bool.not_false, true_and, and_true, not_true_eq_false, not_false_eq_true, decide_true, decide_false, Nat.reduceEqDiff, Nat.reduceAdd, Nat.reduceMul, Nat.reducePow, Int.reduceToNat, Int.reducePow, Nat.zero_add, Nat.mul_one, Int.toNat_natCast, R45_1, rxt, b1, hcd]
  refine reps_ok hO70 hF70 (by omega) d1 fun vy h2 oy g2 fy => ?_
  have b2 : h2.at h.next = some (.cells (dfaC d.start d.cls vn vr) 34 true) := by rw [g2.at_ _ (by omega) (by omega)]; exact b1
  have hoc := oy.sl.oneC
  have n2 := g2.next
  have hr256 : (List.replicate 256 (0 : Int)).length = 256 := by simp
  simp (maxSteps := 2000000) (disch := first | omega | assumption | (simp only [oneC_int, oneC_bool, oneC_str, oneC_ptr, oneC_sl, oneC_map]; done) | (simp only [List.length_cons, List.length_nil, List.length_set, List.length_map, List.length_replicate, List.length_append, List.length_take, List.length_drop, Int.toNat_natCast] <;> omega) | fail) only [Go.Rx.vi, Go.Rx.vb, Go.Rx.vstr, rxc, rxo, Nat.reduceLeDiff, List.getElem?_cons_zero, List.getElem?_cons_succ, List.length_cons, List.length_nil, List.set_cons_zero, List.set_cons_succ, ↓reduceIte, Bool.not_true, Bool.not_false, true_and, and_true, not_true_eq_false, not_false_eq_true, decide_true, decide_false, Nat.reduceEqDiff, Nat.reduceAdd, Nat.reduceMul, Nat.reducePow, Int.reduceToNat, Int.reducePow, Nat.zero_add, Nat.mul_one, Int.toNat_natCast, rxt, b2, dfaC_0, tab0, cellsN_one hoc, tab_fill0 hr256, tab_fill259 hr256, tabC_len hr256]
  obtain ⟨h3, e3, g3, n3, b3⟩ := boxed h2 (tabC vy (List.replicate 256 0) (.slice none 0 0) (.slice none 0 0) d.start) 84
  rw [e3]
  refine ⟨staysAll_one rfl rfl (stays_on (v := .int .i64 d.start) (h' := h1) rfl ?_ ?_) (stays_on (v := .int .i64 d.start) (h' := h2) rfl ?_ ?_), ?_⟩
  · simp (maxSteps := 2000000) (disch := first | omega | assumption | (simp only [oneC_int, oneC_bool, oneC_str, oneC_ptr, oneC_sl, oneC_map]; done) | (simp only [List.length_cons, List.length_nil, List.length_set, List.length_map, List.length_replicate, List.length_append, List.length_take, List.length_drop, Int.toNat_natCast] <;> omega) | fail) only [Go.Rx.vi, Go.Rx.vb, Go.Rx.vstr, rxc, rxo, Nat.reduceLeDiff, List.getElem?_cons_zero, List.getElem?_cons_succ, List.length_cons, List.length_nil, List.set_cons_zero, List.set_cons_succ, ↓reduceIte, Bool.not_true, Bool.not_false, true_and, and_true, not_true_eq_false, not_false_eq_true, decide_true, decide_false, Nat.reduceEqDiff, Nat.reduceAdd, Nat.reduceMul, Nat.reducePow, Int.reduceToNat, Int.reducePow, Nat.zero_add, Nat.mul_one, Int.toNat_natCast, b1, dfaC_0]
  · simp (maxSteps := 2000000) (disch := first | omega | assumption | (simp only [oneC_int, oneC_bool, oneC_str, oneC_ptr, oneC_sl, oneC_map]; done) | (simp only [List.length_cons, List.length_nil, List.length_set, List.length_map, List.length_replicate, List.length_append, List.length_take, List.length_drop, Int.toNat_natCast] <;> omega) | fail) only [Go.Rx.vi, Go.Rx.vb, Go.Rx.vstr, rxc, rxo, Nat.reduceLeDiff, List.getElem?_cons_zero, List.getElem?_cons_succ, List.length_cons, List.length_nil, List.set_cons_zero, List.set_cons_succ, ↓reduceIte, Bool.not_true, Bool.not_false, true_and, and_true, not_true_eq_false, not_false_eq_true, decide_true, decide_false, Nat.reduceEqDiff, Nat.reduceAdd, Nat.reduceMul, Nat.reducePow, Int.reduceToNat, Int.reducePow, Nat.zero_add, Nat.mul_one, Int.toNat_natCast, sameA_int]
  · simp (maxSteps := 2000000) (disch := first | omega | assumption | (simp only [oneC_int, oneC_bool, oneC_str, oneC_ptr, oneC_sl, oneC_map]; done) | (simp only [List.length_cons, List.length_nil, List.length_set, List.length_map, List.length_replicate, List.length_append, List.length_take, List.length_drop, Int.toNat_natCast] <;> omega) | fail) only [Go.Rx.vi, Go.Rx.vb, Go.Rx.vstr, rxc, rxo, Nat.reduceLeDiff, List.getElem?_cons_zero, List.getElem?_cons_succ, List.length_cons, List.length_nil, List.set_cons_zero, List.set_cons_succ, ↓reduceIte, Bool.not_true, Bool.not_false, true_and, and_true, not_true_eq_false, not_false_eq_true, decide_true, decide_false, Nat.reduceEqDiff, Nat.reduceAdd, Nat.reduceMul, Nat.reducePow, Int.reduceToNat, Int.reducePow, Nat.zero_add, Nat.mul_one, Int.toNat_natCast, b2, dfaC_0]
  · simp (maxSteps := 2000000) (disch := first | omega | assumption | (simp only [oneC_int, oneC_bool, oneC_str, oneC_ptr, oneC_sl, oneC_map]; done) | (simp only [List.length_cons, List.length_nil, List.length_set, List.length_map, List.length_replicate, List.length_append, List.length_take, List.length_drop, Int.toNat_natCast] <;> omega) | fail) only [Go.Rx.vi, Go.Rx.vb, Go.Rx.vstr, rxc, rxo, Nat.reduceLeDiff, List.getElem?_cons_zero, List.getElem?_cons_succ, List.length_cons, List.length_nil, List.set_cons_zero, List.set_cons_succ, ↓reduceIte, Bool.not_true, Bool.not_false, true_and, and_true, not_true_eq_false, not_false_eq_true, decide_true, decide_false, Nat.reduceEqDiff, Nat.reduceAdd, Nat.reduceMul, Nat.reducePow, Int.reduceToNat, Int.reducePow, Nat.zero_add, Nat.mul_one, Int.toNat_natCast, sameA_int]
  simp (maxSteps := 2000000) (disch := first | omega | assumption | (simp only [oneC_int, oneC_bool, oneC_str, oneC_ptr, oneC_sl, oneC_map]; done) | (simp only [List.length_cons, List.length_nil, List.length_set, List.length_map, List.length_replicate, List.length_append, List.length_take, List.length_drop, Int.toNat_natCast] <;> omega) | fail) only [Go.Rx.vi, Go.Rx.vb, Go.Rx.vstr, rxc, rxo, Nat.reduceLeDiff, List.getElem?_cons_zero, List.getElem?_cons_succ, List.length_cons, List.length_nil, List.set_cons_zero, List.set_cons_succ, ↓reduceIte, Bool.not_true, Bool.not_false, true_and, and_true, not_true_eq_false, not_false_eq_true, decide_true, decide_false, Nat.reduceEqDiff, Nat.reduceAdd, Nat.reduceMul, Nat.reducePow, Int.reduceToNat, Int.reducePow, Nat.zero_add, Nat.mul_one, Int.toNat_natCast, R45_2, zeros256]
  obtain ⟨h4, e4, g4, n4, b4⟩ := boxed h3 ((List.replicate 256 (0 : Int)).map (.int .i64)) 82
  rw [e4]
  have tv3 : TabV h3 h1.next h2.next vy (.slice none 0 0) (.slice none 0 0) [] (repsTo d.cls 256) (List.replicate 256 0) [] [] d.start := by
    have hyl := oy.1
    refine ⟨b3, by omega, by omega, by simp, oy.grow g3, ⟨by show 0 < _; omega, .inl ⟨rfl, rfl⟩⟩, ⟨by show 0 < _; omega, .inl ⟨rfl, rfl⟩⟩, rfl, fun i hi => by simp at hi, ?_, ?_⟩
    · intro i j hi hj hij he
      have e0 : bno (pB h2.next) = h2.next := rfl
      have z0 : bno (Value.slice none 0 0) = 0 := rfl
      match i, j, hi, hj with
      | 0, 0, _, _ => omega
      | 0, 1, _, _ => simp only [List.getD_cons_succ, List.getD_cons_zero, e0] at he ⊢; omega
      | 0, 2, _, _ => simp only [List.getD_cons_succ, List.getD_cons_zero, e0, z0] at he ⊢; omega
      | 0, 3, _, _ => simp only [List.getD_cons_succ, List.getD_cons_zero, e0, z0] at he ⊢; omega
      | 1, 0, _, _ => simp only [List.getD_cons_succ, List.getD_cons_zero, e0] at he ⊢; omega
      | 1, 1, _, _ => omega
      | 1, 2, _, _ => simp only [List.getD_cons_succ, List.getD_cons_zero, z0] at he ⊢; omega
      | 1, 3, _, _ => simp only [List.getD_cons_succ, List.getD_cons_zero, z0] at he ⊢; omega
      | 2, _, _, _ => rfl
      | 3, _, _, _ => rfl
      | i + 4, _, hi, _ => simp only [List.length_cons, List.length_nil] at hi; omega
      | 0, j + 4, _, hj => simp only [List.length_cons, List.length_nil] at hj; omega
      | 1, j + 4, _, hj => simp only [List.length_cons, List.length_nil] at hj; omega
    · intro i hi
      match i, hi with
      | 0, _ => right; show h1.next ≤ h2.next; omega
      | 1, _ => show bno vy = 0 ∨ h1.next ≤ bno vy; omega
      | 2, _ => exact .inl rfl
      | 3, _ => exact .inl rfl
      | i + 4, hi => simp only [List.length_nil] at hi; omega
  have tv4 := tv3.gp g4.p
  have gp4 : GrowP h h4 := g1.p.trans (g2.trans (g3.p.trans g4.p))
  have b24 : h4.at h.next = some (.cells (dfaC d.start d.cls vn vr) 34 true) := by rw [g4.2 _ (by omega), g3.2 _ (by omega)]; exact b2
  have hbl : (repsTo d.cls 256).length ≤ 256 := repsTo_le _ _
  generalize hby : repsTo d.cls 256 = by_ at *
  have hbr : ∀ x ∈ by_, 0 ≤ x ∧ x < 256 := fun x hx => by rw [← hby] at hx; exact repsTo_range hx
  have hof : ∀ i : Nat, i < 0 + 4 → bno ((pB h2.next :: vy :: Value.slice none 0 0 :: Value.slice none 0 0 :: []).getD i undef) = 0 ∨ bno ((pB h2.next :: vy :: Value.slice none 0 0 :: Value.slice none 0 0 :: []).getD i undef) ≠ h3.next := fun i hi => tv3.newer (Nat.le_refl _) i (by simpa using hi)
  simp (maxSteps := 2000000) (disch := first | omega | assumption | (simp only [oneC_int, oneC_bool, oneC_str, oneC_ptr, oneC_sl, oneC_map]; done) | (simp only [List.length_cons, List.length_nil, List.length_set, List.length_map, List.length_replicate, List.length_append, List.length_take, List.length_drop, Int.toNat_natCast] <;> omega) | fail) only [Go.Rx.vi, Go.Rx.vb, Go.Rx.vstr, rxc, rxo, Nat.reduceLeDiff, List.getElem?_cons_zero, List.getElem?_cons_succ, List.length_cons, List.length_nil, List.set_cons_zero, List.set_cons_succ, ↓reduceIte, Bool.not_true, Bool.not_false, true_and, and_true, not_true_eq_false, not_false_eq_true, decide_true, decide_false, Nat.reduceEqDiff, Nat.reduceAdd, Nat.reduceMul, Nat.reducePow, Int.reduceToNat, Int.reducePow, Nat.zero_add, Nat.mul_one, Int.toNat_natCast, R45_3, tv4.tab, tabC_0, tv4.oy.sl.r, List.length_map]
  refine WC_bloop 17 (fun m e h' => ∃ (i : Nat) (ol : List Int), m = by_.length - i ∧ i ≤ by_.length ∧ e.g 1 = pB h.next ∧ e.g 3 = pB h2.next ∧ e.g 4 = pB h3.next ∧ e.g 26 = vy ∧ e.g 27 = .int .i64 by_.length ∧ e.g 28 = .int .i64 i ∧
      TabV h' h1.next h2.next vy (.slice none 0 0) (.slice none 0 0) [] by_ (List.replicate 256 0) [] [] d.start ∧ GrowP h h' ∧ h'.at h.next = some (.cells (dfaC d.start d.cls vn vr) 34 true) ∧ h'.at h3.next = some (.cells (ol.map (.int .i64)) 82 true) ∧ ol.length = 256 ∧ h3.next < h'.next)
    (fun e h' => ∃ (ol : List Int), e.g 1 = pB h.next ∧ e.g 3 = pB h2.next ∧ e.g 4 = pB h3.next ∧
      TabV h' h1.next h2.next vy (.slice none 0 0) (.slice none 0 0) [] by_ (List.replicate 256 0) [] [] d.start ∧ GrowP h h' ∧ h'.at h.next = some (.cells (dfaC d.start d.cls vn vr) 34 true) ∧ h'.at h3.next = some (.cells (ol.map (.int .i64)) 82 true) ∧ ol.length = 256 ∧ h3.next < h'.next) ?_ ?_ ?_
  · refine ⟨_, 0, List.replicate 256 0, rfl, by omega, ?_, ?_, ?_, ?_, ?_, ?_, tv4, gp4, b24, b4, by simp, by omega⟩
    all_goals simp (maxSteps := 2000000) (disch := first | omega | assumption | (simp only [oneC_int, oneC_bool, oneC_str, oneC_ptr, oneC_sl, oneC_map]; done) | (simp only [List.length_cons, List.length_nil, List.length_set, List.length_map, List.length_replicate, List.length_append, List.length_take, List.length_drop, Int.toNat_natCast] <;> omega) | fail) only [Go.Rx.vi, Go.Rx.vb, Go.Rx.vstr, rxc, rxo, Nat.reduceLeDiff, List.getElem?_cons_zero, List.getElem?_cons_succ, List.length_cons, List.length_nil, List.set_cons_zero, List.set_cons_succ, ↓reduceIte, Bool.not_true, Bool.not_false, true_and, and_true, not_true_eq_false, not_false_eq_true, decide_true, decide_false, Nat.reduceEqDiff, Nat.reduceAdd, Nat.reduceMul, Nat.reducePow, Int.reduceToNat, Int.reducePow, Nat.zero_add, Nat.mul_one, Int.toNat_natCast]
    rfl
  · rintro m e h' ⟨i, ol, rfl, hi, e1, e3, e4, e26, e27, e28, tv, gp, hb, ho, hol, hnx⟩
    simp (maxSteps := 2000000) (disch := first | omega | assumption | (simp only [oneC_int, oneC_bool, oneC_str, oneC_ptr, oneC_sl, oneC_map]; done) | (simp only [List.length_cons, List.length_nil, List.length_set, List.length_map, List.length_replicate, List.length_append, List.length_take, List.length_drop, Int.toNat_natCast] <;> omega) | fail) only [Go.Rx.vi, Go.Rx.vb, Go.Rx.vstr, rxc, rxo, Nat.reduceLeDiff, List.getElem?_cons_zero, List.getElem?_cons_succ, List.length_cons, List.length_nil, List.set_cons_zero, List.set_cons_succ, ↓reduceIte, Bool.not_true, Bool.not_false, true_and, and_true, not_true_eq_false, not_false_eq_true, decide_true, decide_false, Nat.reduceEqDiff, Nat.reduceAdd, Nat.reduceMul, Nat.reducePow, Int.reduceToNat, Int.reducePow, Nat.zero_add, Nat.mul_one, Int.toNat_natCast, B45_0, R45_4, e1, e3, e4, e26, e27, e28]
    refine WCond_dec (fun hc => ?_) (fun hc => ?_)
    · have hx := hbr _ (getD_mem (l := by_) (i := i) (by omega))
      have hcb := hd.byte (by_.getD i 0).toNat (by omega)
      have hol' : (ol.map (Value.int .i64)).length = 256 := by simp [hol]
      simp (maxSteps := 2000000) (disch := first | omega | assumption | (simp only [oneC_int, oneC_bool, oneC_str, oneC_ptr, oneC_sl, oneC_map]; done) | (simp only [List.length_cons, List.length_nil, List.length_set, List.length_map, List.length_replicate, List.length_append, List.length_take, List.length_drop, Int.toNat_natCast] <;> omega) | fail) only [Go.Rx.vi, Go.Rx.vb, Go.Rx.vstr, rxc, rxo, Nat.reduceLeDiff, List.getElem?_cons_zero, List.getElem?_cons_succ, List.length_cons, List.length_nil, List.set_cons_zero, List.set_cons_succ, ↓reduceIte, Bool.not_true, Bool.not_false, true_and, and_true, not_true_eq_false, not_false_eq_true, decide_true, decide_false, Nat.reduceEqDiff, Nat.reduceAdd, Nat.reduceMul, Nat.reducePow, Int.reduceToNat, Int.reducePow, Nat.zero_add, Nat.mul_one, Int.toNat_natCast, R45_5, e1, e3, e4, e26, e27, e28, tv.oy.sl.r, List.length_map, ints_get, R45_6, hb, dfaC_cls hd.cls, ho, hol', ints_set, R45_7]
      have cs : Chg h3.next h' (h'.set h3.next (some (.cells ((ol.set (d.cls.getD (by_.getD i 0).toNat 0).toNat i).map (.int .i64)) 82 true))) := Chg.set
      refine ⟨_, by omega, i + 1, _, rfl, by omega, by simp, tv.other cs hof, gp.chg cs (by omega), rfl, by simp [hol], hnx⟩
    · simp (maxSteps := 2000000) (disch := first | omega | assumption | (simp only [oneC_int, oneC_bool, oneC_str, oneC_ptr, oneC_sl, oneC_map]; done) | (simp only [List.length_cons, List.length_nil, List.length_set, List.length_map, List.length_replicate, List.length_append, List.length_take, List.length_drop, Int.toNat_natCast] <;> omega) | fail) only [Go.Rx.vi, Go.Rx.vb, Go.Rx.vstr, rxc, rxo, Nat.reduceLeDiff, List.getElem?_cons_zero, List.getElem?_cons_succ, List.length_cons, List.length_nil, List.set_cons_zero, List.set_cons_succ, ↓reduceIte, Bool.not_true, Bool.not_false, true_and, and_true, not_true_eq_false, not_false_eq_true, decide_true, decide_false, Nat.reduceEqDiff, Nat.reduceAdd, Nat.reduceMul, Nat.reducePow, Int.reduceToNat, Int.reducePow, Nat.zero_add, Nat.mul_one, Int.toNat_natCast, e1, e3, e4]
      exact ⟨ol, tv, gp, hb, ho, hol, hnx⟩
  · rintro e h' ⟨ol, e1, e3, e4, tv, gp, hb, ho, hol, hnx⟩
    simp (maxSteps := 2000000) (disch := first | omega | assumption | (simp only [oneC_int, oneC_bool, oneC_str, oneC_ptr, oneC_sl, oneC_map]; done) | (simp only [List.length_cons, List.length_nil, List.length_set, List.length_map, List.length_replicate, List.length_append, List.length_take, List.length_drop, Int.toNat_natCast] <;> omega) | fail) only [Go.Rx.vi, Go.Rx.vb, Go.Rx.vstr, rxc, rxo, Nat.reduceLeDiff, List.getElem?_cons_zero, List.getElem?_cons_succ, List.length_cons, List.length_nil, List.set_cons_zero, List.set_cons_succ, ↓reduceIte, Bool.not_true, Bool.not_false, true_and, and_true, not_true_eq_false, not_false_eq_true, decide_true, decide_false, Nat.reduceEqDiff, Nat.reduceAdd, Nat.reduceMul, Nat.reducePow, Int.reduceToNat, Int.reducePow, Nat.zero_add, Nat.mul_one, Int.toNat_natCast, R45_8, e1, e3, e4]
    refine WC_bloop 17 (fun m e h' => ∃ (i : Nat) (pl : List Int), m = 256 - i ∧ i ≤ 256 ∧ e.g 1 = pB h.next ∧ e.g 3 = pB h2.next ∧ e.g 4 = pB h3.next ∧ e.g 40 = .int .i64 i ∧
        TabV h' h1.next h2.next vy (.slice none 0 0) (.slice none 0 0) [] by_ pl [] [] d.start ∧ GrowP h h' ∧ h'.at h.next = some (.cells (dfaC d.start d.cls vn vr) 34 true) ∧ h'.at h3.next = some (.cells (ol.map (.int .i64)) 82 true) ∧ h3.next < h'.next)
      (fun e h' => ∃ (pl : List Int), e.g 1 = pB h.next ∧ e.g 3 = pB h2.next ∧
        TabV h' h1.next h2.next vy (.slice none 0 0) (.slice none 0 0) [] by_ pl [] [] d.start ∧ GrowP h h' ∧ h'.at h.next = some (.cells (dfaC d.start d.cls vn vr) 34 true)) ?_ ?_ ?_
    · refine ⟨_, 0, _, rfl, by omega, ?_, ?_, ?_, ?_, tv, gp, hb, ho, hnx⟩
      all_goals simp (maxSteps := 2000000) (disch := first | omega | assumption | (simp only [oneC_int, oneC_bool, oneC_str, oneC_ptr, oneC_sl, oneC_map]; done) | (simp only [List.length_cons, List.length_nil, List.length_set, List.length_map, List.length_replicate, List.length_append, List.length_take, List.length_drop, Int.toNat_natCast] <;> omega) | fail) only [Go.Rx.vi, Go.Rx.vb, Go.Rx.vstr, rxc, rxo, Nat.reduceLeDiff, List.getElem?_cons_zero, List.getElem?_cons_succ, List.length_cons, List.length_nil, List.set_cons_zero, List.set_cons_succ, ↓reduceIte, Bool.not_true, Bool.not_false, true_and, and_true, not_true_eq_false, not_false_eq_true, decide_true, decide_false, Nat.reduceEqDiff, Nat.reduceAdd, Nat.reduceMul, Nat.reducePow, Int.reduceToNat, Int.reducePow, Nat.zero_add, Nat.mul_one, Int.toNat_natCast, e1, e3, e4]
      rfl
    · rintro m e h' ⟨i, pl, rfl, hi, e1, e3, e4, e40, tv, gp, hb, ho, hnx⟩
      simp (maxSteps := 2000000) (disch := first | omega | assumption | (simp only [oneC_int, oneC_bool, oneC_str, oneC_ptr, oneC_sl, oneC_map]; done) | (simp only [List.length_cons, List.length_nil, List.length_set, List.length_map, List.length_replicate, List.length_append, List.length_take, List.length_drop, Int.toNat_natCast] <;> omega) | fail) only [Go.Rx.vi, Go.Rx.vb, Go.Rx.vstr, rxc, rxo, Nat.reduceLeDiff, List.getElem?_cons_zero, List.getElem?_cons_succ, List.length_cons, List.length_nil, List.set_cons_zero, List.set_cons_succ, ↓reduceIte, Bool.not_true, Bool.not_false, true_and, and_true, not_true_eq_false, not_false_eq_true, decide_true, decide_false, Nat.reduceEqDiff, Nat.reduceAdd, Nat.reduceMul, Nat.reducePow, Int.reduceToNat, Int.reducePow, Nat.zero_add, Nat.mul_one, Int.toNat_natCast, B45_1, R45_9, e1, e3, e4, e40]
      refine WCond_dec (fun hc => ?_) (fun hc => ?_)
      · have hcb := hd.byte i (by omega)
        have hol' : (ol.map (Value.int .i64)).length = 256 := by simp [hol]
        simp (maxSteps := 2000000) (disch := first | omega | assumption | (simp only [oneC_int, oneC_bool, oneC_str, oneC_ptr, oneC_sl, oneC_map]; done) | (simp only [List.length_cons, List.length_nil, List.length_set, List.length_map, List.length_replicate, List.length_append, List.length_take, List.length_drop, Int.toNat_natCast] <;> omega) | fail) only [Go.Rx.vi, Go.Rx.vb, Go.Rx.vstr, rxc, rxo, Nat.reduceLeDiff, List.getElem?_cons_zero, List.getElem?_cons_succ, List.length_cons, List.length_nil, List.set_cons_zero, List.set_cons_succ, ↓reduceIte, Bool.not_true, Bool.not_false, true_and, and_true, not_true_eq_false, not_false_eq_true, decide_true, decide_false, Nat.reduceEqDiff, Nat.reduceAdd, Nat.reduceMul, Nat.reducePow, Int.reduceToNat, Int.reducePow, Nat.zero_add, Nat.mul_one, Int.toNat_natCast, R45_10, e1, e3, e4, e40]
        refine WC_regd0 hm ?_
        have hp := tv.pl
        have htl := tabC_len (vy := vy) (vn := .slice none 0 0) (vr := .slice none 0 0) (s := d.start) hp
        simp (maxSteps := 2000000) (disch := first | omega | assumption | (simp only [oneC_int, oneC_bool, oneC_str, oneC_ptr, oneC_sl, oneC_map]; done) | (simp only [List.length_cons, List.length_nil, List.length_set, List.length_map, List.length_replicate, List.length_append, List.length_take, List.length_drop, Int.toNat_natCast] <;> omega) | fail) only [Go.Rx.vi, Go.Rx.vb, Go.Rx.vstr, rxc, rxo, Nat.reduceLeDiff, List.getElem?_cons_zero, List.getElem?_cons_succ, List.length_cons, List.length_nil, List.set_cons_zero, List.set_cons_succ, ↓reduceIte, Bool.not_true, Bool.not_false, true_and, and_true, not_true_eq_false, not_false_eq_true, decide_true, decide_false, Nat.reduceEqDiff, Nat.reduceAdd, Nat.reduceMul, Nat.reducePow, Int.reduceToNat, Int.reducePow, Nat.zero_add, Nat.mul_one, Int.toNat_natCast, R45_11, e1, e3, e4, e40, hb, dfaC_cls hd.cls, ho, ints_get, tv.tab, tabC_len hp, tabC_setp hp, R45_12]
        have cs : Chg h2.next h' (h'.set h2.next (some (.cells (tabC vy (pl.set i (ol.getD (d.cls.getD i 0).toNat 0)) (.slice none 0 0) (.slice none 0 0) d.start) 84 true))) := Chg.set
        refine ⟨_, by omega, i + 1, _, rfl, by omega, by simp, tv.tabbed (by simp [hp]) cs at_set_same, gp.chg cs (by omega), hnx⟩
      · simp (maxSteps := 2000000) (disch := first | omega | assumption | (simp only [oneC_int, oneC_bool, oneC_str, oneC_ptr, oneC_sl, oneC_map]; done) | (simp only [List.length_cons, List.length_nil, List.length_set, List.length_map, List.length_replicate, List.length_append, List.length_take, List.length_drop, Int.toNat_natCast] <;> omega) | fail) only [Go.Rx.vi, Go.Rx.vb, Go.Rx.vstr, rxc, rxo, Nat.reduceLeDiff, List.getElem?_cons_zero, List.getElem?_cons_succ, List.length_cons, List.length_nil, List.set_cons_zero, List.set_cons_succ, ↓reduceIte, Bool.not_true, Bool.not_false, true_and, and_true, not_true_eq_false, not_false_eq_true, decide_true, decide_false, Nat.reduceEqDiff, Nat.reduceAdd, Nat.reduceMul, Nat.reducePow, Int.reduceToNat, Int.reducePow, Nat.zero_add, Nat.mul_one, Int.toNat_natCast, e1, e3, e4]
        exact ⟨pl, tv, gp, hb⟩
    · rintro e h' ⟨pl, e1, e3, tv, gp, hb⟩
      have r := (hd.next.sl.gp gp).r
      have hl := hd.next.len
      simp only [hl] at r
      simp (maxSteps := 2000000) (disch := first | omega | assumption | (simp only [oneC_int, oneC_bool, oneC_str, oneC_ptr, oneC_sl, oneC_map]; done) | (simp only [List.length_cons, List.length_nil, List.length_set, List.length_map, List.length_replicate, List.length_append, List.length_take, List.length_drop, Int.toNat_natCast] <;> omega) | fail) only [Go.Rx.vi, Go.Rx.vb, Go.Rx.vstr, rxc, rxo, Nat.reduceLeDiff, List.getElem?_cons_zero, List.getElem?_cons_succ, List.length_cons, List.length_nil, List.set_cons_zero, List.set_cons_succ, ↓reduceIte, Bool.not_true, Bool.not_false, true_and, and_true, not_true_eq_false, not_false_eq_true, decide_true, decide_false, Nat.reduceEqDiff, Nat.reduceAdd, Nat.reduceMul, Nat.reducePow, Int.reduceToNat, Int.reducePow, Nat.zero_add, Nat.mul_one, Int.toNat_natCast, R45_13, e1, e3, hb, dfaC_257 hd.cls, r]
      refine WC_bloop 17 (fun m e h' => ∃ (i : Nat) (wn wr : Value) (ws : List Value) (T : List (List Int)), m = d.next.length - i ∧ i ≤ d.next.length ∧ e.g 1 = pB h.next ∧ e.g 3 = pB h2.next ∧ e.g 56 = vn ∧ e.g 57 = .int .i64 d.next.length ∧ e.g 58 = .int .i64 i ∧
          TabV h' h1.next h2.next vy wn wr ws by_ pl T ((d.rule.take i).map fun x => max x (-1)) d.start ∧ GrowP h h' ∧ h'.at h.next = some (.cells (dfaC d.start d.cls vn vr) 34 true) ∧ T.length = i ∧ ∀ s : Nat, s < i → T.getD s [] = tnRow d.cls by_ (d.next.getD s []))
        (fun e h' => ∃ (wn wr : Value) (ws : List Value) (T : List (List Int)), e.g 1 = pB h.next ∧ e.g 3 = pB h2.next ∧
          TabV h' h1.next h2.next vy wn wr ws by_ pl T (d.rule.map fun x => max x (-1)) d.start ∧ GrowP h h' ∧ T.length = d.next.length ∧ ∀ s : Nat, s < d.next.length → T.getD s [] = tnRow d.cls by_ (d.next.getD s [])) ?_ ?_ ?_
      · refine ⟨_, 0, _, _, _, _, rfl, by omega, ?_, ?_, ?_, ?_, ?_, tv, gp, hb, rfl, fun s hs => by omega⟩
        all_goals simp (maxSteps := 2000000) (disch := first | omega | assumption | (simp only [oneC_int, oneC_bool, oneC_str, oneC_ptr, oneC_sl, oneC_map]; done) | (simp only [List.length_cons, List.length_nil, List.length_set, List.length_map, List.length_replicate, List.length_append, List.length_take, List.length_drop, Int.toNat_natCast] <;> omega) | fail) only [Go.Rx.vi, Go.Rx.vb, Go.Rx.vstr, rxc, rxo, Nat.reduceLeDiff, List.getElem?_cons_zero, List.getElem?_cons_succ, List.length_cons, List.length_nil, List.set_cons_zero, List.set_cons_succ, ↓reduceIte, Bool.not_true, Bool.not_false, true_and, and_true, not_true_eq_false, not_false_eq_true, decide_true, decide_false, Nat.reduceEqDiff, Nat.reduceAdd, Nat.reduceMul, Nat.reducePow, Int.reduceToNat, Int.reducePow, Nat.zero_add, Nat.mul_one, Int.toNat_natCast, e1, e3]
        rfl
      · rintro m e h' ⟨i, wn, wr, ws, T, rfl, hi, e1, e3, e56, e57, e58, tv, gp, hb, hT, hTs⟩
        simp (maxSteps := 2000000) (disch := first | omega | assumption | (simp only [oneC_int, oneC_bool, oneC_str, oneC_ptr, oneC_sl, oneC_map]; done) | (simp only [List.length_cons, List.length_nil, List.length_set, List.length_map, List.length_replicate, List.length_append, List.length_take, List.length_drop, Int.toNat_natCast] <;> omega) | fail) only [Go.Rx.vi, Go.Rx.vb, Go.Rx.vstr, rxc, rxo, Nat.reduceLeDiff, List.getElem?_cons_zero, List.getElem?_cons_succ, List.length_cons, List.length_nil, List.set_cons_zero, List.set_cons_succ, ↓reduceIte, Bool.not_true, Bool.not_false, true_and, and_true, not_true_eq_false, not_false_eq_true, decide_true, decide_false, Nat.reduceEqDiff, Nat.reduceAdd, Nat.reduceMul, Nat.reducePow, Int.reduceToNat, Int.reducePow, Nat.zero_add, Nat.mul_one, Int.toNat_natCast, B45_2, R45_14, e1, e3, e56, e57, e58]
        refine WCond_dec (fun hc => ?_) (fun hc => ?_)
        · have gn := gp.next
          have tlo := tv.lt
          have yr := tv.oy.sl.r
          simp only [List.length_map] at yr
          simp (maxSteps := 2000000) (disch := first | omega | assumption | (simp only [oneC_int, oneC_bool, oneC_str, oneC_ptr, oneC_sl, oneC_map]; done) | (simp only [List.length_cons, List.length_nil, List.length_set, List.length_map, List.length_replicate, List.length_append, List.length_take, List.length_drop, Int.toNat_natCast] <;> omega) | fail) only [Go.Rx.vi, Go.Rx.vb, Go.Rx.vstr, rxc, rxo, Nat.reduceLeDiff, List.getElem?_cons_zero, List.getElem?_cons_succ, List.length_cons, List.length_nil, List.set_cons_zero, List.set_cons_succ, ↓reduceIte, Bool.not_true, Bool.not_false, true_and, and_true, not_true_eq_false, not_false_eq_true, decide_true, decide_false, Nat.reduceEqDiff, Nat.reduceAdd, Nat.reduceMul, Nat.reducePow, Int.reduceToNat, Int.reducePow, Nat.zero_add, Nat.mul_one, Int.toNat_natCast, R45_15, e1, e3, e56, e57, e58, R45_16, tv.tab, tabC_0, yr]
          refine WI_makec (by omega) (by omega) (by omega) (by omega) (by omega) (by decide) fun u h5 ou g5 fu => ?_
          have n5 := g5.next
          have hu := tv.newer fu
          have tv5 := tv.gp g5
          have gp5 := gp.trans g5
          have hb5 : h5.at h.next = some (.cells (dfaC d.start d.cls vn vr) 34 true) := by rw [g5.at_ _ (by omega) (by omega)]; exact hb
          simp only [Int.toNat_natCast, ints_rep] at ou
          obtain ⟨kr1, kr2, kr3⟩ := k8 i (by omega)
          simp (maxSteps := 2000000) (disch := first | omega | assumption | (simp only [oneC_int, oneC_bool, oneC_str, oneC_ptr, oneC_sl, oneC_map]; done) | (simp only [List.length_cons, List.length_nil, List.length_set, List.length_map, List.length_replicate, List.length_append, List.length_take, List.length_drop, Int.toNat_natCast] <;> omega) | fail) only [Go.Rx.vi, Go.Rx.vb, Go.Rx.vstr, rxc, rxo, Nat.reduceLeDiff, List.getElem?_cons_zero, List.getElem?_cons_succ, List.length_cons, List.length_nil, List.set_cons_zero, List.set_cons_succ, ↓reduceIte, Bool.not_true, Bool.not_false, true_and, and_true, not_true_eq_false, not_false_eq_true, decide_true, decide_false, Nat.reduceEqDiff, Nat.reduceAdd, Nat.reduceMul, Nat.reducePow, Int.reduceToNat, Int.reducePow, Nat.zero_add, Nat.mul_one, Int.toNat_natCast, e1, e3, e56, e57, e58, R45_17, tv5.tab, tabC_0, yr]
          refine WC_bloop 17 (fun m e h' => ∃ (j : Nat) (r : List Int), m = by_.length - j ∧ j ≤ by_.length ∧ e.g 1 = pB h.next ∧ e.g 3 = pB h2.next ∧ e.g 8 = .int .i64 i ∧ e.g 9 = u ∧ e.g 56 = vn ∧ e.g 57 = .int .i64 d.next.length ∧ e.g 58 = .int .i64 i ∧ e.g 70 = vy ∧ e.g 71 = .int .i64 by_.length ∧ e.g 72 = .int .i64 j ∧
              TabV h' h1.next h2.next vy wn wr ws by_ pl T ((d.rule.take i).map fun x => max x (-1)) d.start ∧ GrowP h h' ∧ h'.at h.next = some (.cells (dfaC d.start d.cls vn vr) 34 true) ∧ OwnV h' 3 u (r.map (.int .i64)) ∧ r.length = by_.length ∧ ∀ j' : Nat, j' < j → r.getD j' 0 = (tnRow d.cls by_ (d.next.getD i [])).getD j' 0)
            (fun e h' => ∃ (r : List Int), e.g 1 = pB h.next ∧ e.g 3 = pB h2.next ∧ e.g 8 = .int .i64 i ∧ e.g 9 = u ∧ e.g 56 = vn ∧ e.g 57 = .int .i64 d.next.length ∧ e.g 58 = .int .i64 i ∧
              TabV h' h1.next h2.next vy wn wr ws by_ pl T ((d.rule.take i).map fun x => max x (-1)) d.start ∧ GrowP h h' ∧ h'.at h.next = some (.cells (dfaC d.start d.cls vn vr) 34 true) ∧ OwnV h' 3 u (r.map (.int .i64)) ∧ r = tnRow d.cls by_ (d.next.getD i [])) ?_ ?_ ?_
          · refine ⟨_, 0, List.replicate by_.length 0, rfl, by omega, ?_, ?_, ?_, ?_, ?_, ?_, ?_, ?_, ?_, ?_, tv5, gp5, hb5, ou, by simp, fun j' hj => by omega⟩
            all_goals simp (maxSteps := 2000000) (disch := first | omega | assumption | (simp only [oneC_int, oneC_bool, oneC_str, oneC_ptr, oneC_sl, oneC_map]; done) | (simp only [List.length_cons, List.length_nil, List.length_set, List.length_map, List.length_replicate, List.length_append, List.length_take, List.length_drop, Int.toNat_natCast] <;> omega) | fail) only [Go.Rx.vi, Go.Rx.vb, Go.Rx.vstr, rxc, rxo, Nat.reduceLeDiff, List.getElem?_cons_zero, List.getElem?_cons_succ, List.length_cons, List.length_nil, List.set_cons_zero, List.set_cons_succ, ↓reduceIte, Bool.not_true, Bool.not_false, true_and, and_true, not_true_eq_false, not_false_eq_true, decide_true, decide_false, Nat.reduceEqDiff, Nat.reduceAdd, Nat.reduceMul, Nat.reducePow, Int.reduceToNat, Int.reducePow, Nat.zero_add, Nat.mul_one, Int.toNat_natCast, e1, e3, e56, e57, e58]
            rfl
          · rintro m e h' ⟨j, r, rfl, hj, e1, e3, e8, e9, e56, e57, e58, e70, e71, e72, tv, gp, hb, ou, hrl, hrs⟩
            simp (maxSteps := 2000000) (disch := first | omega | assumption | (simp only [oneC_int, oneC_bool, oneC_str, oneC_ptr, oneC_sl, oneC_map]; done) | (simp only [List.length_cons, List.length_nil, List.length_set, List.length_map, List.length_replicate, List.length_append, List.length_take, List.length_drop, Int.toNat_natCast] <;> omega) | fail) only [Go.Rx.vi, Go.Rx.vb, Go.Rx.vstr, rxc, rxo, Nat.reduceLeDiff, List.getElem?_cons_zero, List.getElem?_cons_succ, List.length_cons, List.length_nil, List.set_cons_zero, List.set_cons_succ, ↓reduceIte, Bool.not_true, Bool.not_false, true_and, and_true, not_true_eq_false, not_false_eq_true, decide_true, decide_false, Nat.reduceEqDiff, Nat.reduceAdd, Nat.reduceMul, Nat.reducePow, Int.reduceToNat, Int.reducePow, Nat.zero_add, Nat.mul_one, Int.toNat_natCast, B45_3, R45_18, e1, e3, e8, e9, e56, e57, e58, e70, e71, e72]
            refine WCond_dec (fun hc2 => ?_) (fun hc2 => ?_)
            · have yr := tv.oy.sl.r
              simp only [List.length_map] at yr
              have nr := (hd.next.sl.gp gp).r
              have hl := hd.next.len
              simp only [hl] at nr
              have rr := ((hd.next.row i (by omega)).gp gp).r
              simp only [List.length_map] at rr
              have ur := ou.sl.r
              simp only [List.length_map, hrl] at ur
              have hx := hbr _ (getD_mem (l := by_) (i := j) (by omega))
              have hcb := hd.byte (by_.getD j 0).toNat (by omega)
              have hcm := k10 (by_.getD j 0).toNat (by omega)
              simp (maxSteps := 2000000) (disch := first | omega | assumption | (simp only [oneC_int, oneC_bool, oneC_str, oneC_ptr, oneC_sl, oneC_map]; done) | (simp only [List.length_cons, List.length_nil, List.length_set, List.length_map, List.length_replicate, List.length_append, List.length_take, List.length_drop, Int.toNat_natCast] <;> omega) | fail) only [Go.Rx.vi, Go.Rx.vb, Go.Rx.vstr, rxc, rxo, Nat.reduceLeDiff, List.getElem?_cons_zero, List.getElem?_cons_succ, List.length_cons, List.length_nil, List.set_cons_zero, List.set_cons_succ, ↓reduceIte, Bool.not_true, Bool.not_false, true_and, and_true, not_true_eq_false, not_false_eq_true, decide_true, decide_false, Nat.reduceEqDiff, Nat.reduceAdd, Nat.reduceMul, Nat.reducePow, Int.reduceToNat, Int.reducePow, Nat.zero_add, Nat.mul_one, Int.toNat_natCast, R45_19, e1, e3, e8, e9, e56, e57, e58, e70, e71, e72, yr, ints_get]
              refine WC_regd0 hm ?_
              simp (maxSteps := 2000000) (disch := first | omega | assumption | (simp only [oneC_int, oneC_bool, oneC_str, oneC_ptr, oneC_sl, oneC_map]; done) | (simp only [List.length_cons, List.length_nil, List.length_set, List.length_map, List.length_replicate, List.length_append, List.length_take, List.length_drop, Int.toNat_natCast] <;> omega) | fail) only [Go.Rx.vi, Go.Rx.vb, Go.Rx.vstr, rxc, rxo, Nat.reduceLeDiff, List.getElem?_cons_zero, List.getElem?_cons_succ, List.length_cons, List.length_nil, List.set_cons_zero, List.set_cons_succ, ↓reduceIte, Bool.not_true, Bool.not_false, true_and, and_true, not_true_eq_false, not_false_eq_true, decide_true, decide_false, Nat.reduceEqDiff, Nat.reduceAdd, Nat.reduceMul, Nat.reducePow, Int.reduceToNat, Int.reducePow, Nat.zero_add, Nat.mul_one, Int.toNat_natCast, R45_20, e1, e3, e8, e9, e56, e57, e58, e70, e71, e72, hb, dfaC_257 hd.cls, dfaC_cls hd.cls, nr, vals_get (l := us), rr, ints_get, ur]
              refine WI_storec ou (by rw [List.length_map]; omega) rfl fun h6 o6 c6 => ?_
              rw [ints_set] at o6
              have hb6 : h6.at h.next = some (.cells (dfaC d.start d.cls vn vr) 34 true) := by rw [c6.at_ _ (by have := gp.next; have := tv.lt; omega) (by omega)]; exact hb
              simp (maxSteps := 2000000) (disch := first | omega | assumption | (simp only [oneC_int, oneC_bool, oneC_str, oneC_ptr, oneC_sl, oneC_map]; done) | (simp only [List.length_cons, List.length_nil, List.length_set, List.length_map, List.length_replicate, List.length_append, List.length_take, List.length_drop, Int.toNat_natCast] <;> omega) | fail) only [Go.Rx.vi, Go.Rx.vb, Go.Rx.vstr, rxc, rxo, Nat.reduceLeDiff, List.getElem?_cons_zero, List.getElem?_cons_succ, List.length_cons, List.length_nil, List.set_cons_zero, List.set_cons_succ, ↓reduceIte, Bool.not_true, Bool.not_false, true_and, and_true, not_true_eq_false, not_false_eq_true, decide_true, decide_false, Nat.reduceEqDiff, Nat.reduceAdd, Nat.reduceMul, Nat.reducePow, Int.reduceToNat, Int.reducePow, Nat.zero_add, Nat.mul_one, Int.toNat_natCast, e1, e3, e8, e9, e56, e57, e58, e70, e71, e72, R45_21]
              refine ⟨_, by omega, j + 1, _, rfl, by omega, by simp, tv.other c6 hu, gp.chg c6 (by omega), hb6, o6, by simp [hrl], fun j' hj' => ?_⟩
              rw [getD_set (by omega)]
              by_cases e : j = j'
              · subst e
                rw [if_pos rfl]
                unfold tnRow
                rw [getD_map (d' := 0) (by omega)]
              · rw [if_neg e]; exact hrs j' (by omega)
            · simp (maxSteps := 2000000) (disch := first | omega | assumption | (simp only [oneC_int, oneC_bool, oneC_str, oneC_ptr, oneC_sl, oneC_map]; done) | (simp only [List.length_cons, List.length_nil, List.length_set, List.length_map, List.length_replicate, List.length_append, List.length_take, List.length_drop, Int.toNat_natCast] <;> omega) | fail) only [Go.Rx.vi, Go.Rx.vb, Go.Rx.vstr, rxc, rxo, Nat.reduceLeDiff, List.getElem?_cons_zero, List.getElem?_cons_succ, List.length_cons, List.length_nil, List.set_cons_zero, List.set_cons_succ, ↓reduceIte, Bool.not_true, Bool.not_false, true_and, and_true, not_true_eq_false, not_false_eq_true, decide_true, decide_false, Nat.reduceEqDiff, Nat.reduceAdd, Nat.reduceMul, Nat.reducePow, Int.reduceToNat, Int.reducePow, Nat.zero_add, Nat.mul_one, Int.toNat_natCast, e1, e3, e8, e9, e56, e57, e58]
              have : r = tnRow d.cls by_ (d.next.getD i []) := by
                refine ext_getD 0 (by unfold tnRow; rw [List.length_map, hrl]) fun j' hj' => hrs j' (by omega)
              exact ⟨r, tv, gp, hb, ou, this⟩
          · rintro e h' ⟨r, e1, e3, e8, e9, e56, e57, e58, tv, gp, hb, ou, rfl⟩
            have gn := gp.next
            have htl : ∀ x : Value, (tabC vy pl x wr d.start).length = 260 := fun x => tabC_len tv.pl
            have htl2 : ∀ x y : Value, (tabC vy pl x y d.start).length = 260 := fun x y => tabC_len tv.pl
            have hwl := tv.len
            simp (maxSteps := 2000000) (disch := first | omega | assumption | (simp only [oneC_int, oneC_bool, oneC_str, oneC_ptr, oneC_sl, oneC_map]; done) | (simp only [List.length_cons, List.length_nil, List.length_set, List.length_map, List.length_replicate, List.length_append, List.length_take, List.length_drop, Int.toNat_natCast] <;> omega) | fail) only [Go.Rx.vi, Go.Rx.vb, Go.Rx.vstr, rxc, rxo, Nat.reduceLeDiff, List.getElem?_cons_zero, List.getElem?_cons_succ, List.length_cons, List.length_nil, List.set_cons_zero, List.set_cons_succ, ↓reduceIte, Bool.not_true, Bool.not_false, true_and, and_true, not_true_eq_false, not_false_eq_true, decide_true, decide_false, Nat.reduceEqDiff, Nat.reduceAdd, Nat.reduceMul, Nat.reducePow, Int.reduceToNat, Int.reducePow, Nat.zero_add, Nat.mul_one, Int.toNat_natCast, e1, e3, e8, e9, e56, e57, e58, R45_22, tv.tab, tabC_257 tv.pl, cellsN_one ou.sl.oneC]
            refine WI_app1c (by omega) tv.on ou.sl.isSl (by omega) fun vn' h6 o6 c6 f6 => ?_
            have tl := tv.lt
            have hne : bno wn ≠ h2.next ∨ bno wn = 0 := tv.ne_tab 1 (by omega)
            have htab6 : h6.at h2.next = some (.cells (tabC vy pl wn wr d.start) 84 true) := by
              rw [c6.at_ _ tv.lt (by omega)]; exact tv.tab
            have hz := htl2 wn wr
            simp (maxSteps := 2000000) (disch := first | omega | assumption | (simp only [oneC_int, oneC_bool, oneC_str, oneC_ptr, oneC_sl, oneC_map]; done) | (simp only [List.length_cons, List.length_nil, List.length_set, List.length_map, List.length_replicate, List.length_append, List.length_take, List.length_drop, Int.toNat_natCast] <;> omega) | fail) only [Go.Rx.vi, Go.Rx.vb, Go.Rx.vstr, rxc, rxo, Nat.reduceLeDiff, List.getElem?_cons_zero, List.getElem?_cons_succ, List.length_cons, List.length_nil, List.set_cons_zero, List.set_cons_succ, ↓reduceIte, Bool.not_true, Bool.not_false, true_and, and_true, not_true_eq_false, not_false_eq_true, decide_true, decide_false, Nat.reduceEqDiff, Nat.reduceAdd, Nat.reduceMul, Nat.reducePow, Int.reduceToNat, Int.reducePow, Nat.zero_add, Nat.mul_one, Int.toNat_natCast, e1, e3, e8, e9, e56, e57, e58, htab6, cellsN_one o6.sl.oneC, stM_one o6.sl.oneC, tabC_set257 tv.pl]
            have c7 : Chg h2.next h6 (h6.set h2.next (some (.cells (tabC vy pl vn' wr d.start) 84 true))) := Chg.set
            have tv7 := tv.addRow (by omega) ou hu (by omega) o6 c6 f6 c7 at_set_same
            have fr := tv.fresh 2 (by omega)
            simp only [List.getD_cons_succ, List.getD_cons_zero] at fr
            have gp7 := (gp.chg c6 (by omega)).chg c7 (by omega)
            have hne2 : h.next ≠ bno wn := by omega
            have hb7 : (h6.set h2.next (some (.cells (tabC vy pl vn' wr d.start) 84 true))).at h.next = some (.cells (dfaC d.start d.cls vn vr) 34 true) := by
              rw [at_set_ne (by omega), c6.at_ _ (by omega) hne2]; exact hb
            generalize hh7 : h6.set h2.next (some (.cells (tabC vy pl vn' wr d.start) 84 true)) = h7 at c7 tv7 gp7 hb7 ⊢
            have hd7 : DfaV h7 S (.agg ⟨dfaC d.start d.cls vn vr⟩) vn vr us d := hd.keep gp7.next (fun b hb h0 _ => gp7.at_ b (by omega) hb)
            have n7 := gp7.next
            refine WC_regd hm ?_
            simp (maxSteps := 2000000) (disch := first | omega | assumption | (simp only [oneC_int, oneC_bool, oneC_str, oneC_ptr, oneC_sl, oneC_map]; done) | (simp only [List.length_cons, List.length_nil, List.length_set, List.length_map, List.length_replicate, List.length_append, List.length_take, List.length_drop, Int.toNat_natCast] <;> omega) | fail) only [Go.Rx.vi, Go.Rx.vb, Go.Rx.vstr, rxc, rxo, Nat.reduceLeDiff, List.getElem?_cons_zero, List.getElem?_cons_succ, List.length_cons, List.length_nil, List.set_cons_zero, List.set_cons_succ, ↓reduceIte, Bool.not_true, Bool.not_false, true_and, and_true, not_true_eq_false, not_false_eq_true, decide_true, decide_false, Nat.reduceEqDiff, Nat.reduceAdd, Nat.reduceMul, Nat.reducePow, Int.reduceToNat, Int.reducePow, Nat.zero_add, Nat.mul_one, Int.toNat_natCast, R45_23, rxt, e1, e3, e8, e9, e56, e57, e58, tv7.tab, tabC_258 tv.pl, hb7, hcd]
            refine rule_ok hO71 hF71 hd7 (by omega) (by omega) fun h8 g8 => ?_
            have tv8 := tv7.gp g8.p
            have hb8 : h8.at h.next = some (.cells (dfaC d.start d.cls vn vr) 34 true) := by rw [g8.2 _ (by have := tv7.lt; omega)]; exact hb7
            have n8 := g8.1
            simp (maxSteps := 2000000) (disch := first | omega | assumption | (simp only [oneC_int, oneC_bool, oneC_str, oneC_ptr, oneC_sl, oneC_map]; done) | (simp only [List.length_cons, List.length_nil, List.length_set, List.length_map, List.length_replicate, List.length_append, List.length_take, List.length_drop, Int.toNat_natCast] <;> omega) | fail) only [Go.Rx.vi, Go.Rx.vb, Go.Rx.vstr, rxc, rxo, Nat.reduceLeDiff, List.getElem?_cons_zero, List.getElem?_cons_succ, List.length_cons, List.length_nil, List.set_cons_zero, List.set_cons_succ, ↓reduceIte, Bool.not_true, Bool.not_false, true_and, and_true, not_true_eq_false, not_false_eq_true, decide_true, decide_false, Nat.reduceEqDiff, Nat.reduceAdd, Nat.reduceMul, Nat.reducePow, Int.reduceToNat, Int.reducePow, Nat.zero_add, Nat.mul_one, Int.toNat_natCast, rxt, e1, e3, e8, e9, e56, e57, e58]
            obtain ⟨vr', h9, q1, q2, q3, q4⟩ := tv8.or_.app1c (x := .int .i64 (max (d.rule.getD i 0) (-1))) (bytes := 8) (by omega) rfl (by rw [List.length_map, List.length_map, List.length_take]; omega)
            have hr8 := tv8.len
            rw [List.length_append, List.length_append, List.length_singleton, List.length_singleton] at hr8
            have hne3 : bno wr ≠ h2.next ∨ bno wr = 0 := tv8.ne_tab 2 (by rw [List.length_append, List.length_singleton]; omega)
            have htab9 : h9.at h2.next = some (.cells (tabC vy pl vn' wr d.start) 84 true) := by
              have := tv8.low
              rw [q3.at_ _ tv8.lt (by omega)]; exact tv8.tab
            have hz2 := htl2 vn' wr
            simp (maxSteps := 2000000) (disch := first | omega | assumption | (simp only [oneC_int, oneC_bool, oneC_str, oneC_ptr, oneC_sl, oneC_map]; done) | (simp only [List.length_cons, List.length_nil, List.length_set, List.length_map, List.length_replicate, List.length_append, List.length_take, List.length_drop, Int.toNat_natCast] <;> omega) | fail) only [Go.Rx.vi, Go.Rx.vb, Go.Rx.vstr, rxc, rxo, Nat.reduceLeDiff, List.getElem?_cons_zero, List.getElem?_cons_succ, List.length_cons, List.length_nil, List.set_cons_zero, List.set_cons_succ, ↓reduceIte, Bool.not_true, Bool.not_false, true_and, and_true, not_true_eq_false, not_false_eq_true, decide_true, decide_false, Nat.reduceEqDiff, Nat.reduceAdd, Nat.reduceMul, Nat.reducePow, Int.reduceToNat, Int.reducePow, Nat.zero_add, Nat.mul_one, Int.toNat_natCast, rxt, e1, e3, e8, e9, e56, e57, e58, q1, htab9, cellsN_one q2.sl.oneC, stM_one q2.sl.oneC, tabC_set258 tv.pl]
            refine ⟨staysAll_one rfl rfl (stays_on (v := wr) (h' := h7) rfl ?_ ?_) (stays_on (v := wr) (h' := h8) rfl ?_ ?_), ?_⟩
            · simp (maxSteps := 2000000) (disch := first | omega | assumption | (simp only [oneC_int, oneC_bool, oneC_str, oneC_ptr, oneC_sl, oneC_map]; done) | (simp only [List.length_cons, List.length_nil, List.length_set, List.length_map, List.length_replicate, List.length_append, List.length_take, List.length_drop, Int.toNat_natCast] <;> omega) | fail) only [Go.Rx.vi, Go.Rx.vb, Go.Rx.vstr, rxc, rxo, Nat.reduceLeDiff, List.getElem?_cons_zero, List.getElem?_cons_succ, List.length_cons, List.length_nil, List.set_cons_zero, List.set_cons_succ, ↓reduceIte, Bool.not_true, Bool.not_false, true_and, and_true, not_true_eq_false, not_false_eq_true, decide_true, decide_false, Nat.reduceEqDiff, Nat.reduceAdd, Nat.reduceMul, Nat.reducePow, Int.reduceToNat, Int.reducePow, Nat.zero_add, Nat.mul_one, Int.toNat_natCast, tv7.tab, tabC_258 tv.pl]
            · simp (maxSteps := 2000000) (disch := first | omega | assumption | (simp only [oneC_int, oneC_bool, oneC_str, oneC_ptr, oneC_sl, oneC_map]; done) | (simp only [List.length_cons, List.length_nil, List.length_set, List.length_map, List.length_replicate, List.length_append, List.length_take, List.length_drop, Int.toNat_natCast] <;> omega) | fail) only [Go.Rx.vi, Go.Rx.vb, Go.Rx.vstr, rxc, rxo, Nat.reduceLeDiff, List.getElem?_cons_zero, List.getElem?_cons_succ, List.length_cons, List.length_nil, List.set_cons_zero, List.set_cons_succ, ↓reduceIte, Bool.not_true, Bool.not_false, true_and, and_true, not_true_eq_false, not_false_eq_true, decide_true, decide_false, Nat.reduceEqDiff, Nat.reduceAdd, Nat.reduceMul, Nat.reducePow, Int.reduceToNat, Int.reducePow, Nat.zero_add, Nat.mul_one, Int.toNat_natCast, sameA_sl tv8.or_.sl]
            · simp (maxSteps := 2000000) (disch := first | omega | assumption | (simp only [oneC_int, oneC_bool, oneC_str, oneC_ptr, oneC_sl, oneC_map]; done) | (simp only [List.length_cons, List.length_nil, List.length_set, List.length_map, List.length_replicate, List.length_append, List.length_take, List.length_drop, Int.toNat_natCast] <;> omega) | fail) only [Go.Rx.vi, Go.Rx.vb, Go.Rx.vstr, rxc, rxo, Nat.reduceLeDiff, List.getElem?_cons_zero, List.getElem?_cons_succ, List.length_cons, List.length_nil, List.set_cons_zero, List.set_cons_succ, ↓reduceIte, Bool.not_true, Bool.not_false, true_and, and_true, not_true_eq_false, not_false_eq_true, decide_true, decide_false, Nat.reduceEqDiff, Nat.reduceAdd, Nat.reduceMul, Nat.reducePow, Int.reduceToNat, Int.reducePow, Nat.zero_add, Nat.mul_one, Int.toNat_natCast, tv8.tab, tabC_258 tv.pl]
            · simp (maxSteps := 2000000) (disch := first | omega | assumption | (simp only [oneC_int, oneC_bool, oneC_str, oneC_ptr, oneC_sl, oneC_map]; done) | (simp only [List.length_cons, List.length_nil, List.length_set, List.length_map, List.length_replicate, List.length_append, List.length_take, List.length_drop, Int.toNat_natCast] <;> omega) | fail) only [Go.Rx.vi, Go.Rx.vb, Go.Rx.vstr, rxc, rxo, Nat.reduceLeDiff, List.getElem?_cons_zero, List.getElem?_cons_succ, List.length_cons, List.length_nil, List.set_cons_zero, List.set_cons_succ, ↓reduceIte, Bool.not_true, Bool.not_false, true_and, and_true, not_true_eq_false, not_false_eq_true, decide_true, decide_false, Nat.reduceEqDiff, Nat.reduceAdd, Nat.reduceMul, Nat.reducePow, Int.reduceToNat, Int.reducePow, Nat.zero_add, Nat.mul_one, Int.toNat_natCast, sameA_sl tv8.or_.sl]
            rw [ints_app, ← take_map (f := fun x => max x (-1)) (by omega)] at q2
            have c10 : Chg h2.next h9 (h9.set h2.next (some (.cells (tabC vy pl vn' vr' d.start) 84 true))) := Chg.set
            have tv10 := tv8.addRule (by have := tv8.lt; omega) q2 q3 q4 c10 at_set_same
            have fr3 := tv8.fresh 3 (by rw [List.length_append, List.length_singleton]; omega)
            simp only [List.getD_cons_succ, List.getD_cons_zero] at fr3
            have gp8 := gp7.trans g8.p
            have gp10 := (gp8.chg q3 (by omega)).chg c10 (by omega)
            simp (maxSteps := 2000000) (disch := first | omega | assumption | (simp only [oneC_int, oneC_bool, oneC_str, oneC_ptr, oneC_sl, oneC_map]; done) | (simp only [List.length_cons, List.length_nil, List.length_set, List.length_map, List.length_replicate, List.length_append, List.length_take, List.length_drop, Int.toNat_natCast] <;> omega) | fail) only [Go.Rx.vi, Go.Rx.vb, Go.Rx.vstr, rxc, rxo, Nat.reduceLeDiff, List.getElem?_cons_zero, List.getElem?_cons_succ, List.length_cons, List.length_nil, List.set_cons_zero, List.set_cons_succ, ↓reduceIte, Bool.not_true, Bool.not_false, true_and, and_true, not_true_eq_false, not_false_eq_true, decide_true, decide_false, Nat.reduceEqDiff, Nat.reduceAdd, Nat.reduceMul, Nat.reducePow, Int.reduceToNat, Int.reducePow, Nat.zero_add, Nat.mul_one, Int.toNat_natCast, e1, e3, e8, e9, e56, e57, e58, R45_24]
            refine ⟨_, by omega, i + 1, vn', vr', _, _, rfl, by omega, by simp, tv10, gp10, ?_, by simp [hT], fun s hs => ?_⟩
            · rw [q3.at_ _ (by have := tv8.lt; omega) (by omega)]; exact hb8
            · rw [getD_app]
              by_cases hs2 : s < T.length
              · rw [if_pos hs2]; exact hTs s (by omega)
              · rw [if_neg hs2, if_pos (by omega), show s = i by omega]
        · have : i = d.next.length := by omega
          subst this
          rw [List.take_of_length_le (by omega)] at tv
          simp (maxSteps := 2000000) (disch := first | omega | assumption | (simp only [oneC_int, oneC_bool, oneC_str, oneC_ptr, oneC_sl, oneC_map]; done) | (simp only [List.length_cons, List.length_nil, List.length_set, List.length_map, List.length_replicate, List.length_append, List.length_take, List.length_drop, Int.toNat_natCast] <;> omega) | fail) only [Go.Rx.vi, Go.Rx.vb, Go.Rx.vstr, rxc, rxo, Nat.reduceLeDiff, List.getElem?_cons_zero, List.getElem?_cons_succ, List.length_cons, List.length_nil, List.set_cons_zero, List.set_cons_succ, ↓reduceIte, Bool.not_true, Bool.not_false, true_and, and_true, not_true_eq_false, not_false_eq_true, decide_true, decide_false, Nat.reduceEqDiff, Nat.reduceAdd, Nat.reduceMul, Nat.reducePow, Int.reduceToNat, Int.reducePow, Nat.zero_add, Nat.mul_one, Int.toNat_natCast, e1, e3]
          exact ⟨wn, wr, ws, T, tv, gp, hT, hTs⟩
      · rintro e h' ⟨wn, wr, ws, T, e1, e3, tv, gp, hT, hTs⟩
        have gn := gp.next
        have hT0 : T = d.next.map (tnRow d.cls by_) := by
          refine ext_getD [] (by simp [hT]) fun s hs => ?_
          rw [hTs s (by omega), getD_map (d' := []) (by omega)]
        have hwid : ∀ s : Nat, s < d.next.length → (T.getD s []).length = by_.length := fun s hs => by rw [hTs s hs]; simp [tnRow]
        simp (maxSteps := 2000000) (disch := first | omega | assumption | (simp only [oneC_int, oneC_bool, oneC_str, oneC_ptr, oneC_sl, oneC_map]; done) | (simp only [List.length_cons, List.length_nil, List.length_set, List.length_map, List.length_replicate, List.length_append, List.length_take, List.length_drop, Int.toNat_natCast] <;> omega) | fail) only [Go.Rx.vi, Go.Rx.vb, Go.Rx.vstr, rxc, rxo, Nat.reduceLeDiff, List.getElem?_cons_zero, List.getElem?_cons_succ, List.length_cons, List.length_nil, List.set_cons_zero, List.set_cons_succ, ↓reduceIte, Bool.not_true, Bool.not_false, true_and, and_true, not_true_eq_false, not_false_eq_true, decide_true, decide_false, Nat.reduceEqDiff, Nat.reduceAdd, Nat.reduceMul, Nat.reducePow, Int.reduceToNat, Int.reducePow, Nat.zero_add, Nat.mul_one, Int.toNat_natCast]
        refine WC_regd0 hm ?_
        simp (maxSteps := 2000000) (disch := first | omega | assumption | (simp only [oneC_int, oneC_bool, oneC_str, oneC_ptr, oneC_sl, oneC_map]; done) | (simp only [List.length_cons, List.length_nil, List.length_set, List.length_map, List.length_replicate, List.length_append, List.length_take, List.length_drop, Int.toNat_natCast] <;> omega) | fail) only [Go.Rx.vi, Go.Rx.vb, Go.Rx.vstr, rxc, rxo, Nat.reduceLeDiff, List.getElem?_cons_zero, List.getElem?_cons_succ, List.length_cons, List.length_nil, List.set_cons_zero, List.set_cons_succ, ↓reduceIte, Bool.not_true, Bool.not_false, true_and, and_true, not_true_eq_false, not_false_eq_true, decide_true, decide_false, Nat.reduceEqDiff, Nat.reduceAdd, Nat.reduceMul, Nat.reducePow, Int.reduceToNat, Int.reducePow, Nat.zero_add, Nat.mul_one, Int.toNat_natCast, R45_25, e1, e3, tv.tab, tabC_257 tv.pl, tabC_258 tv.pl]
        refine lives_ok hO72 hF72 (by omega) tv.rows tv.or_.sl (by rw [List.length_map, hT]; exact k3) (by omega) (fun s hs => by rw [hwid s (by omega)]; exact hbl) (fun s hs j hj => ?_) fun vis h5 is ois g5 fis his hal => ?_
        · rw [hwid s (by omega)] at hj
          rw [hTs s (by omega), hT]
          unfold tnRow
          rw [getD_map (d' := 0) (by omega)]
          have hcm := k10 (by_.getD j 0).toNat (by have := hbr _ (getD_mem (l := by_) (i := j) hj); omega)
          have hcb := hd.byte (by_.getD j 0).toNat (by have := hbr _ (getD_mem (l := by_) (i := j) hj); omega)
          obtain ⟨q1, q2, q3⟩ := k8 s (by omega)
          have := le_maxI (getD_mem (l := d.next.getD s []) (i := (d.cls.getD (by_.getD j 0).toNat 0).toNat) (by omega))
          omega
        have tv5 := tv.gp g5
        have gp5 := gp.trans g5
        rw [hT] at his hal
        rw [hT0] at hal
        have wr5 := tv5.on.sl.r
        have hwl := tv5.len
        have ir := ois.sl.r
        simp only [List.length_map, hwl, hT, his] at wr5 ir
        have tl := tv.lt
        have hob : ∀ i : Nat, i < ws.length + 4 → bno ((pB h2.next :: vy :: wn :: wr :: ws).getD i undef) = 0 ∨ bno ((pB h2.next :: vy :: wn :: wr :: ws).getD i undef) ≠ bno vis := fun i hi => by
          have := tv.lows i (by simpa using hi); omega
        simp (maxSteps := 2000000) (disch := first | omega | assumption | (simp only [oneC_int, oneC_bool, oneC_str, oneC_ptr, oneC_sl, oneC_map]; done) | (simp only [List.length_cons, List.length_nil, List.length_set, List.length_map, List.length_replicate, List.length_append, List.length_take, List.length_drop, Int.toNat_natCast] <;> omega) | fail) only [Go.Rx.vi, Go.Rx.vb, Go.Rx.vstr, rxc, rxo, Nat.reduceLeDiff, List.getElem?_cons_zero, List.getElem?_cons_succ, List.length_cons, List.length_nil, List.set_cons_zero, List.set_cons_succ, ↓reduceIte, Bool.not_true, Bool.not_false, true_and, and_true, not_true_eq_false, not_false_eq_true, decide_true, decide_false, Nat.reduceEqDiff, Nat.reduceAdd, Nat.reduceMul, Nat.reducePow, Int.reduceToNat, Int.reducePow, Nat.zero_add, Nat.mul_one, Int.toNat_natCast, e1, e3, R45_26, tv5.tab, tabC_257 tv.pl, wr5]
        refine WC_bloop 17 (fun m e h' => ∃ (i : Nat) (T : List (List Int)), m = d.next.length - i ∧ i ≤ d.next.length ∧ e.g 3 = pB h2.next ∧ e.g 12 = vis ∧ e.g 128 = wn ∧ e.g 129 = .int .i64 d.next.length ∧ e.g 130 = .int .i64 i ∧
            TabV h' h1.next h2.next vy wn wr ws by_ pl T (d.rule.map fun x => max x (-1)) d.start ∧ GrowP h h' ∧ OwnV h' 4 vis (is.map .bool) ∧ T.length = d.next.length ∧ ∀ s : Nat, s < d.next.length → T.getD s [] = if s < i then trimR is (tnRow d.cls by_ (d.next.getD s [])) else tnRow d.cls by_ (d.next.getD s []))
          (fun e h' => ∃ (T : List (List Int)), e.g 3 = pB h2.next ∧ TabV h' h1.next h2.next vy wn wr ws by_ pl T (d.rule.map fun x => max x (-1)) d.start ∧ GrowP h h' ∧ T.length = d.next.length ∧ ∀ s : Nat, s < d.next.length → T.getD s [] = trimR is (tnRow d.cls by_ (d.next.getD s []))) ?_ ?_ ?_
        · refine ⟨_, 0, T, rfl, by omega, ?_, ?_, ?_, ?_, ?_, tv5, gp5, ois, hT, fun s hs => by rw [if_neg (by omega)]; exact hTs s hs⟩
          all_goals simp (maxSteps := 2000000) (disch := first | omega | assumption | (simp only [oneC_int, oneC_bool, oneC_str, oneC_ptr, oneC_sl, oneC_map]; done) | (simp only [List.length_cons, List.length_nil, List.length_set, List.length_map, List.length_replicate, List.length_append, List.length_take, List.length_drop, Int.toNat_natCast] <;> omega) | fail) only [Go.Rx.vi, Go.Rx.vb, Go.Rx.vstr, rxc, rxo, Nat.reduceLeDiff, List.getElem?_cons_zero, List.getElem?_cons_succ, List.length_cons, List.length_nil, List.set_cons_zero, List.set_cons_succ, ↓reduceIte, Bool.not_true, Bool.not_false, true_and, and_true, not_true_eq_false, not_false_eq_true, decide_true, decide_false, Nat.reduceEqDiff, Nat.reduceAdd, Nat.reduceMul, Nat.reducePow, Int.reduceToNat, Int.reducePow, Nat.zero_add, Nat.mul_one, Int.toNat_natCast, e3]
          rfl
        · rintro m e h' ⟨i, T, rfl, hi, e3, e12, e128, e129, e130, tv, gp, ov, hT, hTs⟩
          have wr6 := tv.on.sl.r
          simp (maxSteps := 2000000) (disch := first | omega | assumption | (simp only [oneC_int, oneC_bool, oneC_str, oneC_ptr, oneC_sl, oneC_map]; done) | (simp only [List.length_cons, List.length_nil, List.length_set, List.length_map, List.length_replicate, List.length_append, List.length_take, List.length_drop, Int.toNat_natCast] <;> omega) | fail) only [Go.Rx.vi, Go.Rx.vb, Go.Rx.vstr, rxc, rxo, Nat.reduceLeDiff, List.getElem?_cons_zero, List.getElem?_cons_succ, List.length_cons, List.length_nil, List.set_cons_zero, List.set_cons_succ, ↓reduceIte, Bool.not_true, Bool.not_false, true_and, and_true, not_true_eq_false, not_false_eq_true, decide_true, decide_false, Nat.reduceEqDiff, Nat.reduceAdd, Nat.reduceMul, Nat.reducePow, Int.reduceToNat, Int.reducePow, Nat.zero_add, Nat.mul_one, Int.toNat_natCast, B45_4, R45_27, e3, e12, e128, e129, e130]
          refine WCond_dec (fun hc => ?_) (fun hc => ?_)
          · have hrow : T.getD i [] = tnRow d.cls by_ (d.next.getD i []) := by rw [hTs i (by omega), if_neg (by omega)]
            have rr := (tv.row i (by omega)).sl.r
            have hbl2 : (T.getD i []).length = by_.length := by rw [hrow]; simp [tnRow]
            have hws : ws.length = d.next.length := by rw [tv.len]; exact hT
            simp only [List.length_map, hbl2] at rr
            simp only [hws] at wr6
            simp (maxSteps := 2000000) (disch := first | omega | assumption | (simp only [oneC_int, oneC_bool, oneC_str, oneC_ptr, oneC_sl, oneC_map]; done) | (simp only [List.length_cons, List.length_nil, List.length_set, List.length_map, List.length_replicate, List.length_append, List.length_take, List.length_drop, Int.toNat_natCast] <;> omega) | fail) only [Go.Rx.vi, Go.Rx.vb, Go.Rx.vstr, rxc, rxo, Nat.reduceLeDiff, List.getElem?_cons_zero, List.getElem?_cons_succ, List.length_cons, List.length_nil, List.set_cons_zero, List.set_cons_succ, ↓reduceIte, Bool.not_true, Bool.not_false, true_and, and_true, not_true_eq_false, not_false_eq_true, decide_true, decide_false, Nat.reduceEqDiff, Nat.reduceAdd, Nat.reduceMul, Nat.reducePow, Int.reduceToNat, Int.reducePow, Nat.zero_add, Nat.mul_one, Int.toNat_natCast, R45_28, e3, e12, e128, e129, e130, wr6, vals_get (l := ws), R45_29, rr]
            refine WC_bloop 17 (fun m e h' => ∃ (j : Nat) (T : List (List Int)), m = by_.length - j ∧ j ≤ by_.length ∧ e.g 3 = pB h2.next ∧ e.g 12 = vis ∧ e.g 14 = ws.getD i undef ∧ e.g 128 = wn ∧ e.g 129 = .int .i64 d.next.length ∧ e.g 130 = .int .i64 i ∧ e.g 134 = ws.getD i undef ∧ e.g 135 = .int .i64 by_.length ∧ e.g 136 = .int .i64 j ∧
                TabV h' h1.next h2.next vy wn wr ws by_ pl T (d.rule.map fun x => max x (-1)) d.start ∧ GrowP h h' ∧ OwnV h' 4 vis (is.map .bool) ∧ T.length = d.next.length ∧ (T.getD i []).length = by_.length ∧
                (∀ s : Nat, s < d.next.length → s ≠ i → T.getD s [] = if s < i then trimR is (tnRow d.cls by_ (d.next.getD s [])) else tnRow d.cls by_ (d.next.getD s [])) ∧
                ∀ j' : Nat, j' < by_.length → (T.getD i []).getD j' 0 = if j' < j then trimX is ((tnRow d.cls by_ (d.next.getD i [])).getD j' 0) else (tnRow d.cls by_ (d.next.getD i [])).getD j' 0)
              (fun e h' => ∃ (T : List (List Int)), e.g 3 = pB h2.next ∧ e.g 12 = vis ∧ e.g 128 = wn ∧ e.g 129 = .int .i64 d.next.length ∧ e.g 130 = .int .i64 i ∧
                TabV h' h1.next h2.next vy wn wr ws by_ pl T (d.rule.map fun x => max x (-1)) d.start ∧ GrowP h h' ∧ OwnV h' 4 vis (is.map .bool) ∧ T.length = d.next.length ∧
                (∀ s : Nat, s < d.next.length → T.getD s [] = if s < i + 1 then trimR is (tnRow d.cls by_ (d.next.getD s [])) else tnRow d.cls by_ (d.next.getD s []))) ?_ ?_ ?_
            · refine ⟨_, 0, T, rfl, by omega, ?_, ?_, ?_, ?_, ?_, ?_, ?_, ?_, ?_, tv, gp, ov, hT, hbl2, fun s hs _ => hTs s hs, fun j' hj' => by rw [if_neg (by omega), hrow]⟩
              all_goals simp (maxSteps := 2000000) (disch := first | omega | assumption | (simp only [oneC_int, oneC_bool, oneC_str, oneC_ptr, oneC_sl, oneC_map]; done) | (simp only [List.length_cons, List.length_nil, List.length_set, List.length_map, List.length_replicate, List.length_append, List.length_take, List.length_drop, Int.toNat_natCast] <;> omega) | fail) only [Go.Rx.vi, Go.Rx.vb, Go.Rx.vstr, rxc, rxo, Nat.reduceLeDiff, List.getElem?_cons_zero, List.getElem?_cons_succ, List.length_cons, List.length_nil, List.set_cons_zero, List.set_cons_succ, ↓reduceIte, Bool.not_true, Bool.not_false, true_and, and_true, not_true_eq_false, not_false_eq_true, decide_true, decide_false, Nat.reduceEqDiff, Nat.reduceAdd, Nat.reduceMul, Nat.reducePow, Int.reduceToNat, Int.reducePow, Nat.zero_add, Nat.mul_one, Int.toNat_natCast, e3, e12, e128, e129, e130]
              rfl
            · rintro m e h' ⟨j, T, rfl, hj, e3, e12, e14, e128, e129, e130, e134, e135, e136, tv, gp, ov, hT, hTl, hTo, hTi⟩
              have rr := (tv.row i (by omega)).sl.r
              have ir := ov.sl.r
              simp only [List.length_map, hTl, his] at rr ir
              simp (maxSteps := 2000000) (disch := first | omega | assumption | (simp only [oneC_int, oneC_bool, oneC_str, oneC_ptr, oneC_sl, oneC_map]; done) | (simp only [List.length_cons, List.length_nil, List.length_set, List.length_map, List.length_replicate, List.length_append, List.length_take, List.length_drop, Int.toNat_natCast] <;> omega) | fail) only [Go.Rx.vi, Go.Rx.vb, Go.Rx.vstr, rxc, rxo, Nat.reduceLeDiff, List.getElem?_cons_zero, List.getElem?_cons_succ, List.length_cons, List.length_nil, List.set_cons_zero, List.set_cons_succ, ↓reduceIte, Bool.not_true, Bool.not_false, true_and, and_true, not_true_eq_false, not_false_eq_true, decide_true, decide_false, Nat.reduceEqDiff, Nat.reduceAdd, Nat.reduceMul, Nat.reducePow, Int.reduceToNat, Int.reducePow, Nat.zero_add, Nat.mul_one, Int.toNat_natCast, B45_5, R45_30, e3, e12, e14, e128, e129, e130, e134, e135, e136]
              refine WCond_dec (fun hc2 => ?_) (fun hc2 => ?_)
              · have hx := hTi j (by omega)
                rw [if_neg (by omega)] at hx
                have hxl : (tnRow d.cls by_ (d.next.getD i [])).getD j 0 < d.next.length := by
                  unfold tnRow
                  rw [getD_map (d' := 0) (by omega)]
                  have hcm := k10 (by_.getD j 0).toNat (by have := hbr _ (getD_mem (l := by_) (i := j) (by omega)); omega)
                  have hcb := hd.byte (by_.getD j 0).toNat (by have := hbr _ (getD_mem (l := by_) (i := j) (by omega)); omega)
                  obtain ⟨q1, q2, q3⟩ := k8 i (by omega)
                  have := le_maxI (getD_mem (l := d.next.getD i []) (i := (d.cls.getD (by_.getD j 0).toNat 0).toNat) (by omega))
                  omega
                have stay : trimX is ((tnRow d.cls by_ (d.next.getD i [])).getD j 0) = (tnRow d.cls by_ (d.next.getD i [])).getD j 0 → ∀ j' : Nat, j' < by_.length → (T.getD i []).getD j' 0 = if j' < j + 1 then trimX is ((tnRow d.cls by_ (d.next.getD i [])).getD j' 0) else (tnRow d.cls by_ (d.next.getD i [])).getD j' 0 := fun hs j' hj' => by
                  have := hTi j' hj'
                  by_cases h1 : j' < j
                  · rw [if_pos h1] at this; rw [if_pos (by omega)]; exact this
                  · rw [if_neg h1] at this
                    by_cases h2 : j' = j
                    · subst h2; rw [if_pos (by omega), hs]; exact this
                    · rw [if_neg (by omega)]; exact this
                simp (maxSteps := 2000000) (disch := first | omega | assumption | (simp only [oneC_int, oneC_bool, oneC_str, oneC_ptr, oneC_sl, oneC_map]; done) | (simp only [List.length_cons, List.length_nil, List.length_set, List.length_map, List.length_replicate, List.length_append, List.length_take, List.length_drop, Int.toNat_natCast] <;> omega) | fail) only [Go.Rx.vi, Go.Rx.vb, Go.Rx.vstr, rxc, rxo, Nat.reduceLeDiff, List.getElem?_cons_zero, List.getElem?_cons_succ, List.length_cons, List.length_nil, List.set_cons_zero, List.set_cons_succ, ↓reduceIte, Bool.not_true, Bool.not_false, true_and, and_true, not_true_eq_false, not_false_eq_true, decide_true, decide_false, Nat.reduceEqDiff, Nat.reduceAdd, Nat.reduceMul, Nat.reducePow, Int.reduceToNat, Int.reducePow, Nat.zero_add, Nat.mul_one, Int.toNat_natCast, R45_31, e3, e12, e14, e128, e129, e130, e134, e135, e136, rr, ints_get, hx, R45_32]
                refine WG_dec (fun h0 => ?_) (fun h0 => ?_)
                · simp (maxSteps := 2000000) (disch := first | omega | assumption | (simp only [oneC_int, oneC_bool, oneC_str, oneC_ptr, oneC_sl, oneC_map]; done) | (simp only [List.length_cons, List.length_nil, List.length_set, List.length_map, List.length_replicate, List.length_append, List.length_take, List.length_drop, Int.toNat_natCast] <;> omega) | fail) only [Go.Rx.vi, Go.Rx.vb, Go.Rx.vstr, rxc, rxo, Nat.reduceLeDiff, List.getElem?_cons_zero, List.getElem?_cons_succ, List.length_cons, List.length_nil, List.set_cons_zero, List.set_cons_succ, ↓reduceIte, Bool.not_true, Bool.not_false, true_and, and_true, not_true_eq_false, not_false_eq_true, decide_true, decide_false, Nat.reduceEqDiff, Nat.reduceAdd, Nat.reduceMul, Nat.reducePow, Int.reduceToNat, Int.reducePow, Nat.zero_add, Nat.mul_one, Int.toNat_natCast, e3, e12, e14, e128, e129, e130, e134, e135, e136, ir, bools_get, unV_not]
                  refine WCond_split (fun hl => ?_) (fun hl => ?_)
                  · have hlf : is.getD ((tnRow d.cls by_ (d.next.getD i [])).getD j 0).toNat false = false := by simpa using hl
                    simp (maxSteps := 2000000) (disch := first | omega | assumption | (simp only [oneC_int, oneC_bool, oneC_str, oneC_ptr, oneC_sl, oneC_map]; done) | (simp only [List.length_cons, List.length_nil, List.length_set, List.length_map, List.length_replicate, List.length_append, List.length_take, List.length_drop, Int.toNat_natCast] <;> omega) | fail) only [Go.Rx.vi, Go.Rx.vb, Go.Rx.vstr, rxc, rxo, Nat.reduceLeDiff, List.getElem?_cons_zero, List.getElem?_cons_succ, List.length_cons, List.length_nil, List.set_cons_zero, List.set_cons_succ, ↓reduceIte, Bool.not_true, Bool.not_false, true_and, and_true, not_true_eq_false, not_false_eq_true, decide_true, decide_false, Nat.reduceEqDiff, Nat.reduceAdd, Nat.reduceMul, Nat.reducePow, Int.reduceToNat, Int.reducePow, Nat.zero_add, Nat.mul_one, Int.toNat_natCast, R45_33, e3, e12, e14, e128, e129, e130, e134, e135, e136, rr]
                    refine WI_storec (tv.row i (by omega)) (by rw [List.length_map]; omega) rfl fun h6 o6 c6 => ?_
                    rw [ints_set] at o6
                    have tv6 := tv.setRow (by omega) o6 c6
                    have fr := tv.fresh (i + 4) (by omega)
                    simp only [List.getD_cons_succ] at fr
                    have ho := hob (i + 4) (by omega)
                    simp only [List.getD_cons_succ] at ho
                    simp (maxSteps := 2000000) (disch := first | omega | assumption | (simp only [oneC_int, oneC_bool, oneC_str, oneC_ptr, oneC_sl, oneC_map]; done) | (simp only [List.length_cons, List.length_nil, List.length_set, List.length_map, List.length_replicate, List.length_append, List.length_take, List.length_drop, Int.toNat_natCast] <;> omega) | fail) only [Go.Rx.vi, Go.Rx.vb, Go.Rx.vstr, rxc, rxo, Nat.reduceLeDiff, List.getElem?_cons_zero, List.getElem?_cons_succ, List.length_cons, List.length_nil, List.set_cons_zero, List.set_cons_succ, ↓reduceIte, Bool.not_true, Bool.not_false, true_and, and_true, not_true_eq_false, not_false_eq_true, decide_true, decide_false, Nat.reduceEqDiff, Nat.reduceAdd, Nat.reduceMul, Nat.reducePow, Int.reduceToNat, Int.reducePow, Nat.zero_add, Nat.mul_one, Int.toNat_natCast, e3, e12, e14, e128, e129, e130, e134, e135, e136, R45_34]
                    refine ⟨_, by omega, j + 1, _, rfl, by omega, by simp, tv6, gp.chg c6 (by omega), ov.chg c6 (by omega), by simp [hT], ?_, ?_, ?_⟩
                    · rw [getD_set (by omega), if_pos rfl, List.length_set]; exact hTl
                    · intro s hs hne
                      rw [getD_set (by omega), if_neg (Ne.symm hne)]; exact hTo s hs hne
                    · intro j' hj'
                      rw [getD_set (by omega), if_pos rfl, getD_set (by omega)]
                      by_cases h2 : j = j'
                      · subst h2
                        rw [if_pos rfl, if_pos (by omega)]
                        unfold trimX
                        rw [if_pos ⟨h0, hlf⟩]
                      · rw [if_neg h2, hTi j' hj']
                        by_cases h3 : j' < j
                        · rw [if_pos h3, if_pos (by omega)]
                        · rw [if_neg h3, if_neg (by omega)]
                  · have hlt : is.getD ((tnRow d.cls by_ (d.next.getD i [])).getD j 0).toNat false = true := by simpa using hl
                    simp (maxSteps := 2000000) (disch := first | omega | assumption | (simp only [oneC_int, oneC_bool, oneC_str, oneC_ptr, oneC_sl, oneC_map]; done) | (simp only [List.length_cons, List.length_nil, List.length_set, List.length_map, List.length_replicate, List.length_append, List.length_take, List.length_drop, Int.toNat_natCast] <;> omega) | fail) only [Go.Rx.vi, Go.Rx.vb, Go.Rx.vstr, rxc, rxo, Nat.reduceLeDiff, List.getElem?_cons_zero, List.getElem?_cons_succ, List.length_cons, List.length_nil, List.set_cons_zero, List.set_cons_succ, ↓reduceIte, Bool.not_true, Bool.not_false, true_and, and_true, not_true_eq_false, not_false_eq_true, decide_true, decide_false, Nat.reduceEqDiff, Nat.reduceAdd, Nat.reduceMul, Nat.reducePow, Int.reduceToNat, Int.reducePow, Nat.zero_add, Nat.mul_one, Int.toNat_natCast, e3, e12, e14, e128, e129, e130, e134, e135, e136, R45_34]
                    refine ⟨_, by omega, j + 1, T, rfl, by omega, by simp, tv, gp, ov, hT, hTl, hTo, stay ?_⟩
                    unfold trimX
                    rw [if_neg (fun h => by rw [hlt] at h; exact absurd h.2 (by decide))]
                · simp (maxSteps := 2000000) (disch := first | omega | assumption | (simp only [oneC_int, oneC_bool, oneC_str, oneC_ptr, oneC_sl, oneC_map]; done) | (simp only [List.length_cons, List.length_nil, List.length_set, List.length_map, List.length_replicate, List.length_append, List.length_take, List.length_drop, Int.toNat_natCast] <;> omega) | fail) only [Go.Rx.vi, Go.Rx.vb, Go.Rx.vstr, rxc, rxo, Nat.reduceLeDiff, List.getElem?_cons_zero, List.getElem?_cons_succ, List.length_cons, List.length_nil, List.set_cons_zero, List.set_cons_succ, ↓reduceIte, Bool.not_true, Bool.not_false, true_and, and_true, not_true_eq_false, not_false_eq_true, decide_true, decide_false, Nat.reduceEqDiff, Nat.reduceAdd, Nat.reduceMul, Nat.reducePow, Int.reduceToNat, Int.reducePow, Nat.zero_add, Nat.mul_one, Int.toNat_natCast, e3, e12, e14, e128, e129, e130, e134, e135, e136, R45_34]
                  refine ⟨_, by omega, j + 1, T, rfl, by omega, by simp, tv, gp, ov, hT, hTl, hTo, stay ?_⟩
                  unfold trimX
                  rw [if_neg (fun h => by omega)]
              · have hjb : j = by_.length := by omega
                subst hjb
                simp (maxSteps := 2000000) (disch := first | omega | assumption | (simp only [oneC_int, oneC_bool, oneC_str, oneC_ptr, oneC_sl, oneC_map]; done) | (simp only [List.length_cons, List.length_nil, List.length_set, List.length_map, List.length_replicate, List.length_append, List.length_take, List.length_drop, Int.toNat_natCast] <;> omega) | fail) only [Go.Rx.vi, Go.Rx.vb, Go.Rx.vstr, rxc, rxo, Nat.reduceLeDiff, List.getElem?_cons_zero, List.getElem?_cons_succ, List.length_cons, List.length_nil, List.set_cons_zero, List.set_cons_succ, ↓reduceIte, Bool.not_true, Bool.not_false, true_and, and_true, not_true_eq_false, not_false_eq_true, decide_true, decide_false, Nat.reduceEqDiff, Nat.reduceAdd, Nat.reduceMul, Nat.reducePow, Int.reduceToNat, Int.reducePow, Nat.zero_add, Nat.mul_one, Int.toNat_natCast, e3, e12, e128, e129, e130]
                refine ⟨T, tv, gp, ov, hT, fun s hs => ?_⟩
                by_cases hsi : s = i
                · subst hsi
                  rw [if_pos (by omega)]
                  refine ext_getD 0 (by rw [hTl]; simp [trimR, tnRow]) fun j' hj' => ?_
                  rw [hTl] at hj'
                  rw [hTi j' hj', if_pos hj']
                  unfold trimR
                  rw [getD_map (d' := 0) (by simpa [tnRow] using hj')]
                · rw [hTo s hs hsi]
                  by_cases h1 : s < i
                  · rw [if_pos h1, if_pos (by omega)]
                  · rw [if_neg h1, if_neg (by omega)]
            · rintro e h' ⟨T, e3, e12, e128, e129, e130, tv, gp, ov, hT, hTs⟩
              simp (maxSteps := 2000000) (disch := first | omega | assumption | (simp only [oneC_int, oneC_bool, oneC_str, oneC_ptr, oneC_sl, oneC_map]; done) | (simp only [List.length_cons, List.length_nil, List.length_set, List.length_map, List.length_replicate, List.length_append, List.length_take, List.length_drop, Int.toNat_natCast] <;> omega) | fail) only [Go.Rx.vi, Go.Rx.vb, Go.Rx.vstr, rxc, rxo, Nat.reduceLeDiff, List.getElem?_cons_zero, List.getElem?_cons_succ, List.length_cons, List.length_nil, List.set_cons_zero, List.set_cons_succ, ↓reduceIte, Bool.not_true, Bool.not_false, true_and, and_true, not_true_eq_false, not_false_eq_true, decide_true, decide_false, Nat.reduceEqDiff, Nat.reduceAdd, Nat.reduceMul, Nat.reducePow, Int.reduceToNat, Int.reducePow, Nat.zero_add, Nat.mul_one, Int.toNat_natCast, e3, e12, e128, e129, e130, R45_35]
              exact ⟨_, by omega, i + 1, T, rfl, by omega, by simp, tv, gp, ov, hT, hTs⟩
          · have : i = d.next.length := by omega
            subst this
            simp (maxSteps := 2000000) (disch := first | omega | assumption | (simp only [oneC_int, oneC_bool, oneC_str, oneC_ptr, oneC_sl, oneC_map]; done) | (simp only [List.length_cons, List.length_nil, List.length_set, List.length_map, List.length_replicate, List.length_append, List.length_take, List.length_drop, Int.toNat_natCast] <;> omega) | fail) only [Go.Rx.vi, Go.Rx.vb, Go.Rx.vstr, rxc, rxo, Nat.reduceLeDiff, List.getElem?_cons_zero, List.getElem?_cons_succ, List.length_cons, List.length_nil, List.set_cons_zero, List.set_cons_succ, ↓reduceIte, Bool.not_true, Bool.not_false, true_and, and_true, not_true_eq_false, not_false_eq_true, decide_true, decide_false, Nat.reduceEqDiff, Nat.reduceAdd, Nat.reduceMul, Nat.reducePow, Int.reduceToNat, Int.reducePow, Nat.zero_add, Nat.mul_one, Int.toNat_natCast, e3]
            exact ⟨T, tv, gp, hT, fun s hs => by rw [hTs s hs, if_pos hs]⟩
        · rintro e h' ⟨T, e3, tv, gp, hT, hTs⟩
          simp (maxSteps := 2000000) (disch := first | omega | assumption | (simp only [oneC_int, oneC_bool, oneC_str, oneC_ptr, oneC_sl, oneC_map]; done) | (simp only [List.length_cons, List.length_nil, List.length_set, List.length_map, List.length_replicate, List.length_append, List.length_take, List.length_drop, Int.toNat_natCast] <;> omega) | fail) only [Go.Rx.vi, Go.Rx.vb, Go.Rx.vstr, rxc, rxo, Nat.reduceLeDiff, List.getElem?_cons_zero, List.getElem?_cons_succ, List.length_cons, List.length_nil, List.set_cons_zero, List.set_cons_succ, ↓reduceIte, Bool.not_true, Bool.not_false, true_and, and_true, not_true_eq_false, not_false_eq_true, decide_true, decide_false, Nat.reduceEqDiff, Nat.reduceAdd, Nat.reduceMul, Nat.reducePow, Int.reduceToNat, Int.reducePow, Nat.zero_add, Nat.mul_one, Int.toNat_natCast, R45_36, e3]
          exact hk h' h2.next vy wn wr ws pl T is (tv.mono (by omega)) gp his hal hT hTs
end Go.Rx

namespace Go.Rx
set_option linter.unusedSimpArgs false
set_option linter.unusedVariables false

/-! ### Rows of numbers below a bound -/
theorem pig : ∀ (a b : Nat) (g : Nat → Nat), (∀ y, y < b → g y < a) → (∀ y z, y < b → z < b → g y = g z → y = z) → b ≤ a
  | 0, b, g, h1, _ => by
    cases b with
    | zero => exact Nat.le_refl _
    | succ b => exact absurd (h1 0 (by omega)) (by omega)
  | a + 1, b, g, h1, h2 => by
    by_cases hy : ∃ y, y < b ∧ g y = a
    · obtain ⟨y0, hb, hg⟩ := hy
      have := pig a (b - 1) (fun y => g (if y < y0 then y else y + 1)) (fun y hyb => by
        have h3 := h1 (if y < y0 then y else y + 1) (by split <;> omega)
        have h4 : g (if y < y0 then y else y + 1) ≠ a := fun he => by
          have := h2 _ y0 (by split <;> omega) hb (he.trans hg.symm)
          split at this <;> omega
        omega) (fun y z hyb hzb he => by
        have := h2 _ _ (by split <;> omega) (by split <;> omega) he
        split at this <;> split at this <;> omega)
      omega
    · have := pig a b g (fun y hyb => by
        have h3 := h1 y hyb
        have : g y ≠ a := fun he => hy ⟨y, hyb, he⟩
        omega) h2
      omega
/-- Onto: no more than there are; and if as many, each once. -/
theorem onto_le {a b : Nat} {f : Nat → Nat} (h : ∀ y, y < b → ∃ x, x < a ∧ f x = y) : b ≤ a := by
  have hc : ∀ y, ∃ x, y < b → x < a ∧ f x = y := fun y => by
    by_cases hy : y < b
    · obtain ⟨x, hx⟩ := h y hy; exact ⟨x, fun _ => hx⟩
    · exact ⟨0, fun h => absurd h hy⟩
  obtain ⟨g, hg⟩ := Classical.axiomOfChoice hc
  refine pig a b g (fun y hy => (hg y hy).1) (fun y z hy hz he => ?_)
  rw [← (hg y hy).2, ← (hg z hz).2, he]
theorem onto_inj {a : Nat} {f : Nat → Nat} (h : ∀ y, y < a → ∃ x, x < a ∧ f x = y) {x1 x2 : Nat} (h1 : x1 < a) (h2 : x2 < a) (he : f x1 = f x2) : x1 = x2 := by
  have hc : ∀ y, ∃ x, y < a → x < a ∧ f x = y := fun y => by
    by_cases hy : y < a
    · obtain ⟨x, hx⟩ := h y hy; exact ⟨x, fun _ => hx⟩
    · exact ⟨0, fun h => absurd h hy⟩
  obtain ⟨g, hg⟩ := Classical.axiomOfChoice hc
  have ginj : ∀ y z, y < a → z < a → g y = g z → y = z := fun y z hy hz he => by rw [← (hg y hy).2, ← (hg z hz).2, he]
  -- the place that is not hit
  have key : ∀ x, x < a → (∀ y, y < a → g y ≠ x) → False := fun x hx hmiss => by
    have := pig (a - 1) a (fun y => if g y < x then g y else g y - 1) (fun y hy => by
      have h3 := (hg y hy).1
      have h4 := hmiss y hy
      show (if g y < x then g y else g y - 1) < a - 1
      split <;> omega) (fun y z hy hz he => by
      have h4 := hmiss y hy
      have h5 := hmiss z hz
      refine ginj y z hy hz ?_
      have he : (if g y < x then g y else g y - 1) = (if g z < x then g z else g z - 1) := he
      split at he <;> split at he <;> omega)
    omega
  by_cases hx : ∃ y, y < a ∧ g y = x1
  · by_cases hx' : ∃ y, y < a ∧ g y = x2
    · obtain ⟨y, hy, e1⟩ := hx
      obtain ⟨z, hz, e2⟩ := hx'
      have q1 := (hg y hy).2
      have q2 := (hg z hz).2
      rw [e1] at q1; rw [e2] at q2
      have : y = z := by rw [← q1, ← q2, he]
      rw [← e1, ← e2, this]
    · exact (key x2 h2 (fun y hy he => hx' ⟨y, hy, he⟩)).elim
  · exact (key x1 h1 (fun y hy he => hx ⟨y, hy, he⟩)).elim

/-! ### Numbers as bytes -/
theorem enc_inj {n m : Int} (h1 : -1 ≤ n) (h2 : n + 1 < 16777216) (h3 : -1 ≤ m) (h4 : m + 1 < 16777216) (h : enc n = enc m) : n = m := by
  simp only [enc, List.cons.injEq, and_true] at h
  omega
theorem enc_range {n : Int} (h1 : -1 ≤ n) (h2 : n + 1 < 16777216) : ∀ x ∈ enc n, 0 ≤ x ∧ x < 256 := by
  intro x hx
  simp only [enc, List.mem_cons, List.not_mem_nil, or_false] at hx
  omega
theorem encs_inj : ∀ {a b : List Int}, (∀ x ∈ a, -1 ≤ x ∧ x + 1 < 16777216) → (∀ x ∈ b, -1 ≤ x ∧ x + 1 < 16777216) → a.length = b.length → (a.map enc).flatten = (b.map enc).flatten → a = b
  | [], [], _, _, _, _ => rfl
  | x :: a, y :: b, ha, hb, hl, h => by
    simp only [List.map_cons, List.flatten_cons] at h
    have hx := ha x (by simp)
    have hy := hb y (by simp)
    obtain ⟨e1, e2⟩ := List.append_inj h rfl
    rw [enc_inj hx.1 hx.2 hy.1 hy.2 e1, encs_inj (fun z hz => ha z (by simp [hz])) (fun z hz => hb z (by simp [hz])) (by simpa using hl) e2]
  | [], _ :: _, _, _, hl, _ => by simp at hl
  | _ :: _, [], _, _, hl, _ => by simp at hl

/-! ### Alike -/
def sameT (E : Nat → Nat → Prop) (x y : Int) : Prop := (x < 0 ∧ y < 0) ∨ (0 ≤ x ∧ 0 ≤ y ∧ E x.toNat y.toNat)
/-- Alike for so many steps. -/
def Eqv (T : List (List Int)) (Rl : List Int) (nb : Nat) : Nat → Nat → Nat → Prop
  | 0, _, _ => True
  | r + 1, s, t => Rl.getD s 0 = Rl.getD t 0 ∧ Eqv T Rl nb r s t ∧ ∀ j, j < nb → sameT (Eqv T Rl nb r) ((T.getD s []).getD j 0) ((T.getD t []).getD j 0)
theorem Eqv.le {T : List (List Int)} {Rl : List Int} {nb : Nat} {s t : Nat} : ∀ {r q : Nat}, q ≤ r → Eqv T Rl nb r s t → Eqv T Rl nb q s t
  | 0, q, h, _ => by
    have : q = 0 := by omega
    subst this; trivial
  | r + 1, q, h, he => by
    by_cases e : q = r + 1
    · subst e; exact he
    · exact Eqv.le (r := r) (by omega) he.2.1
/-- Once nothing is told apart any more, nothing will be. -/
theorem Eqv.stable {T : List (List Int)} {Rl : List Int} {nb k : Nat} (hT : ∀ s, s < k → ∀ j, j < nb → (T.getD s []).getD j 0 < k) {r : Nat} (h : ∀ s t, s < k → t < k → Eqv T Rl nb r s t → Eqv T Rl nb (r + 1) s t) :
    ∀ q, ∀ s t, s < k → t < k → Eqv T Rl nb r s t → Eqv T Rl nb (r + q) s t
  | 0, s, t, hs, ht, he => he
  | q + 1, s, t, hs, ht, he => by
    have ih := Eqv.stable hT h q
    obtain ⟨a, b, c⟩ := h s t hs ht he
    refine ⟨a, ih s t hs ht he, fun j hj => ?_⟩
    rcases c j hj with c | ⟨c1, c2, c3⟩
    · exact .inl c
    · have h1 := hT s hs j hj
      have h2 := hT t ht j hj
      exact .inr ⟨c1, c2, ih _ _ (by omega) (by omega) c3⟩

/-- Where a state's way leads, by the blocks' numbers. -/
def blk (of : List Int) (x : Int) : Int := if 0 ≤ x then of.getD x.toNat 0 else -1
def keyL (T : List (List Int)) (Rl of : List Int) (s : Nat) : List Int := enc (Rl.getD s 0) ++ enc (of.getD s 0) ++ ((T.getD s []).map fun x => enc (blk of x)).flatten

theorem keyL_iff {T : List (List Int)} {Rl of : List Int} {nb k : Nat} (hk : k ≤ 2048) (hR : ∀ s, s < k → -1 ≤ Rl.getD s 0 ∧ Rl.getD s 0 < 48) (hof : ∀ s, s < k → 0 ≤ of.getD s 0 ∧ of.getD s 0 < k) (hw : ∀ s, s < k → (T.getD s []).length = nb)
    (hT : ∀ s, s < k → ∀ j, j < nb → (T.getD s []).getD j 0 < k) {r : Nat} (hE : ∀ s t, s < k → t < k → (of.getD s 0 = of.getD t 0 ↔ Eqv T Rl nb r s t)) {s t : Nat} (hs : s < k) (ht : t < k) :
    keyL T Rl of s = keyL T Rl of t ↔ Eqv T Rl nb (r + 1) s t := by
  have hb : ∀ s, s < k → ∀ x ∈ (T.getD s []).map (blk of), -1 ≤ x ∧ x + 1 < 16777216 := fun s hs x hx => by
    obtain ⟨y, hy, rfl⟩ := List.mem_map.1 hx
    obtain ⟨j, hj, rfl⟩ := mem_getD hy
    have h1 := hT s hs j (by rw [← hw s hs]; exact hj)
    unfold blk
    split
    · have := hof ((T.getD s []).getD j 0).toNat (by omega); omega
    · omega
  have hblk : ∀ j, j < nb → (blk of ((T.getD s []).getD j 0) = blk of ((T.getD t []).getD j 0) ↔ sameT (Eqv T Rl nb r) ((T.getD s []).getD j 0) ((T.getD t []).getD j 0)) := fun j hj => by
    have h1 := hT s hs j hj
    have h2 := hT t ht j hj
    unfold blk sameT
    by_cases c1 : 0 ≤ (T.getD s []).getD j 0
    · rw [if_pos c1]
      have h3 := hof ((T.getD s []).getD j 0).toNat (by omega)
      by_cases c2 : 0 ≤ (T.getD t []).getD j 0
      · rw [if_pos c2, hE _ _ (by omega) (by omega)]
        constructor
        · exact fun h => .inr ⟨c1, c2, h⟩
        · rintro (h | ⟨_, _, h⟩)
          · omega
          · exact h
      · rw [if_neg c2]
        constructor
        · intro h; omega
        · rintro (h | h) <;> omega
    · rw [if_neg c1]
      by_cases c2 : 0 ≤ (T.getD t []).getD j 0
      · have h4 := hof ((T.getD t []).getD j 0).toNat (by omega)
        rw [if_pos c2]
        constructor
        · intro h; omega
        · rintro (h | h) <;> omega
      · rw [if_neg c2]
        exact ⟨fun _ => .inl (by omega), fun _ => rfl⟩
  have hr1 := hR s hs
  have hr2 := hR t ht
  have ho1 := hof s hs
  have ho2 := hof t ht
  have mm : ∀ l : List Int, (l.map fun x => enc (blk of x)) = (l.map (blk of)).map enc := fun l => by simp
  unfold keyL
  rw [mm, mm]
  constructor
  · intro h
    obtain ⟨e12, e3⟩ := List.append_inj h rfl
    obtain ⟨e1, e2⟩ := List.append_inj e12 rfl
    have e3 := encs_inj (hb s hs) (hb t ht) (by rw [List.length_map, List.length_map, hw s hs, hw t ht]) e3
    refine ⟨enc_inj hr1.1 (by omega) hr2.1 (by omega) e1, (hE s t hs ht).1 (enc_inj (by omega) (by omega) (by omega) (by omega) e2), fun j hj => (hblk j hj).1 ?_⟩
    have : ((T.getD s []).map (blk of)).getD j 0 = ((T.getD t []).map (blk of)).getD j 0 := by rw [e3]
    rw [getD_map (d' := 0) (by rw [hw s hs]; exact hj), getD_map (d' := 0) (by rw [hw t ht]; exact hj)] at this
    exact this
  · rintro ⟨a, b, c⟩
    have e3 : (T.getD s []).map (blk of) = (T.getD t []).map (blk of) := by
      refine ext_getD 0 (by rw [List.length_map, List.length_map, hw s hs, hw t ht]) fun j hj => ?_
      rw [List.length_map, hw s hs] at hj
      rw [getD_map (d' := 0) (by rw [hw s hs]; exact hj), getD_map (d' := 0) (by rw [hw t ht]; exact hj)]
      exact (hblk j hj).2 (c j hj)
    rw [a, (hE s t hs ht).2 b, e3]
theorem keyL_range {T : List (List Int)} {Rl of : List Int} {nb k : Nat} (hk : k ≤ 2048) (hR : ∀ s, s < k → -1 ≤ Rl.getD s 0 ∧ Rl.getD s 0 < 48) (hof : ∀ s, s < k → 0 ≤ of.getD s 0 ∧ of.getD s 0 < k) (hw : ∀ s, s < k → (T.getD s []).length = nb)
    (hT : ∀ s, s < k → ∀ j, j < nb → (T.getD s []).getD j 0 < k) {s : Nat} (hs : s < k) : ∀ x ∈ keyL T Rl of s, 0 ≤ x ∧ x < 256 := by
  intro x hx
  have hr1 := hR s hs
  have ho1 := hof s hs
  rcases List.mem_append.1 hx with hx | hx
  · rcases List.mem_append.1 hx with hx | hx
    · exact enc_range hr1.1 (by omega) x hx
    · exact enc_range (by omega) (by omega) x hx
  · obtain ⟨l, hl, hx⟩ := List.mem_flatten.1 hx
    obtain ⟨y, hy, rfl⟩ := List.mem_map.1 hl
    obtain ⟨j, hj, rfl⟩ := mem_getD hy
    have h1 := hT s hs j (by rw [← hw s hs]; exact hj)
    refine enc_range ?_ ?_ x hx
    · unfold blk; split
      · have := hof ((T.getD s []).getD j 0).toNat (by omega); omega
      · omega
    · unfold blk; split
      · have := hof ((T.getD s []).getD j 0).toNat (by omega); omega
      · omega
end Go.Rx

namespace Go.Rx
variable {M : Mach}
set_option maxRecDepth 4000
set_option linter.unusedSimpArgs false
set_option linter.unusedVariables false

/-- What a table must be for its blocks to be asked. -/
structure Tok (T : List (List Int)) (Rl : List Int) (nb k : Nat) : Prop where
  len : T.length = k
  rlen : Rl.length = k
  some : 1 ≤ k
  few : k ≤ 2048
  thin : nb ≤ 256
  wide : ∀ s, s < k → (T.getD s []).length = nb
  rule : ∀ s, s < k → -1 ≤ Rl.getD s 0 ∧ Rl.getD s 0 < 48
  to : ∀ s, s < k → ∀ j, j < nb → -1 ≤ (T.getD s []).getD j 0 ∧ (T.getD s []).getD j 0 < k

theorem flat_enc_len {of : List Int} : ∀ (l : List Int), ((l.map fun x => enc (blk of x)).flatten).length = 3 * l.length
  | [] => rfl
  | x :: l => by simp only [List.map_cons, List.flatten_cons, List.length_append, flat_enc_len l, List.length_cons]; simp [enc]; omega
theorem take_snoc {l : List Int} {i : Nat} (h : i < l.length) : l.take (i + 1) = l.take i ++ [l.getD i 0] := by
  rw [List.take_add_one, List.getElem?_eq_getElem h, List.getD_eq_getElem?_getD, List.getElem?_eq_getElem h]; rfl

theorem classes {k c n : Nat} {of nx : List Int} (h1 : ∀ s, s < k → 0 ≤ of.getD s 0 ∧ of.getD s 0 < c) (h2 : ∀ y, y < c → ∃ s, s < k ∧ of.getD s 0 = (y : Nat)) (h3 : ∀ s, s < k → 0 ≤ nx.getD s 0 ∧ nx.getD s 0 < n) (h4 : ∀ y, y < n → ∃ s, s < k ∧ nx.getD s 0 = (y : Nat))
    (h5 : ∀ s t, s < k → t < k → nx.getD s 0 = nx.getD t 0 → of.getD s 0 = of.getD t 0) : c ≤ n ∧ (c = n → ∀ s t, s < k → t < k → of.getD s 0 = of.getD t 0 → nx.getD s 0 = nx.getD t 0) := by
  have hc : ∀ y : Nat, ∃ s, y < n → s < k ∧ nx.getD s 0 = (y : Nat) := fun y => by
    by_cases hy : y < n
    · obtain ⟨x, hx⟩ := h4 y hy; exact ⟨x, fun _ => hx⟩
    · exact ⟨0, fun h => absurd h hy⟩
  obtain ⟨g, hg⟩ := Classical.axiomOfChoice hc
  have hf : ∀ s, s < k → (of.getD (g (nx.getD s 0).toNat) 0).toNat = (of.getD s 0).toNat := fun s hs => by
    have q := h3 s hs
    obtain ⟨a, b⟩ := hg (nx.getD s 0).toNat (by omega)
    rw [h5 _ s a hs (by omega)]
  have onto : ∀ y, y < c → ∃ x, x < n ∧ (of.getD (g x) 0).toNat = y := fun y hy => by
    obtain ⟨s, hs, e⟩ := h2 y hy
    have q := h3 s hs
    exact ⟨(nx.getD s 0).toNat, by omega, by rw [hf s hs, e]; simp⟩
  refine ⟨onto_le onto, fun hcn s t hs ht he => ?_⟩
  subst hcn
  have q := h3 s hs
  have q' := h3 t ht
  have := onto_inj onto (x1 := (nx.getD s 0).toNat) (x2 := (nx.getD t 0).toNat) (by omega) (by omega) (by rw [hf s hs, hf t ht, he])
  omega

theorem blocks_ok (hm : M.Mono) (hO73 : M.O 73 = none) (hF73 : M.F 73 = some A73) (hO : M.O 46 = none) (hF : M.F 46 = some A46)
  {h : Heap} {n0 tb : Nat} {vy wn wr : Value} {ws : List Value} {bs pl : List Int} {T : List (List Int)} {Rl : List Int} {st : Int} {nb k : Nat} {K : KF} (h1n : 1 ≤ h.next) (tv : TabV h n0 tb vy wn wr ws bs pl T Rl st) (ok : Tok T Rl nb k)
  (hk : ∀ v' h' (of : List Int), OwnV h' 3 v' (of.map (.int .i64)) → GrowP h h' → h.next ≤ bno v' → of.length = k → (∀ s, s < k → 0 ≤ of.getD s 0 ∧ of.getD s 0 < k) → (∀ s t, s < k → t < k → (of.getD s 0 = of.getD t 0 ↔ ∀ r, Eqv T Rl nb r s t)) → K v' h') : WF M 46 [pB tb] h K := by
  obtain ⟨k1, k2, k3, k4, k5, k6, k7, k8⟩ := ok
  rw [WF_eqT 15 hO hF]
  have wr0 := tv.on.sl.r
  have hwl : ws.length = k := by rw [tv.len]; exact k1
  simp only [hwl] at wr0
  simp (maxSteps := 2000000) (disch := first | omega | assumption | (simp only [oneC_int, oneC_bool, oneC_str, oneC_ptr, oneC_sl, oneC_map]; done) | (simp only [List.length_cons, List.length_nil, List.length_set, List.length_map, List.length_replicate, List.length_append, List.length_take, List.length_drop, Int.toNat_natCast] <;> omega) | fail) only [Go.Rx.vi, Go.Rx.vb, Go.Rx.vstr, rxc, rxo, Nat.reduceLeDiff, List.getElem?_cons_zero, List.getElem?_cons_succ, List.length_cons, List.length_nil, List.set_cons_zero, List.set_cons_succ, ↓reduceIte, Bool.not_true, Bool.not_false, true_and, and_true, not_true_eq_false, not_false_eq_true, decide_true, decide_false, Nat.reduceEqDiff, Nat.reduceAdd, Nat.reduceMul, Nat.reducePow, Int.reduceToNat, Int.reducePow, Nat.zero_add, Nat.mul_one, Int.toNat_natCast, A46, R46_0, R46_1, tv.tab, tabC_257 tv.pl, wr0]
  refine WI_makec h1n (by omega) (by omega) (by omega) (by omega) (by decide) fun vo h1 oo g1 fo => ?_
  simp only [Int.toNat_natCast, ints_rep] at oo
  simp (maxSteps := 2000000) (disch := first | omega | assumption | (simp only [oneC_int, oneC_bool, oneC_str, oneC_ptr, oneC_sl, oneC_map]; done) | (simp only [List.length_cons, List.length_nil, List.length_set, List.length_map, List.length_replicate, List.length_append, List.length_take, List.length_drop, Int.toNat_natCast] <;> omega) | fail) only [Go.Rx.vi, Go.Rx.vb, Go.Rx.vstr, rxc, rxo, Nat.reduceLeDiff, List.getElem?_cons_zero, List.getElem?_cons_succ, List.length_cons, List.length_nil, List.set_cons_zero, List.set_cons_succ, ↓reduceIte, Bool.not_true, Bool.not_false, true_and, and_true, not_true_eq_false, not_false_eq_true, decide_true, decide_false, Nat.reduceEqDiff, Nat.reduceAdd, Nat.reduceMul, Nat.reducePow, Int.reduceToNat, Int.reducePow, Nat.zero_add, Nat.mul_one, Int.toNat_natCast, R46_2]
  refine WC_bloop 15 (fun m e h' => ∃ (c r : Nat) (vo : Value) (of : List Int), m = k - c ∧ c ≤ k ∧ e.g 0 = pB tb ∧ e.g 3 = vo ∧ e.g 4 = .int .i64 c ∧ OwnV h' 3 vo (of.map (.int .i64)) ∧ GrowP h h' ∧ h.next ≤ bno vo ∧ of.length = k ∧ (∀ s, s < k → 0 ≤ of.getD s 0 ∧ of.getD s 0 < k) ∧
      (∀ s t, s < k → t < k → (of.getD s 0 = of.getD t 0 ↔ Eqv T Rl nb r s t)) ∧ (c = 0 ∨ ((∀ s, s < k → of.getD s 0 < c) ∧ ∀ n, n < c → ∃ s, s < k ∧ of.getD s 0 = n)))
    (fun e h' => False) ?_ ?_ ?_
  · refine ⟨_, 0, 0, vo, List.replicate k 0, rfl, by omega, ?_, ?_, ?_, oo, g1, fo, by simp, fun s hs => by rw [getD_rep hs]; omega, fun s t hs ht => by rw [getD_rep hs, getD_rep ht]; exact ⟨fun _ => trivial, fun _ => rfl⟩, .inl rfl⟩
    all_goals simp (maxSteps := 2000000) (disch := first | omega | assumption | (simp only [oneC_int, oneC_bool, oneC_str, oneC_ptr, oneC_sl, oneC_map]; done) | (simp only [List.length_cons, List.length_nil, List.length_set, List.length_map, List.length_replicate, List.length_append, List.length_take, List.length_drop, Int.toNat_natCast] <;> omega) | fail) only [Go.Rx.vi, Go.Rx.vb, Go.Rx.vstr, rxc, rxo, Nat.reduceLeDiff, List.getElem?_cons_zero, List.getElem?_cons_succ, List.length_cons, List.length_nil, List.set_cons_zero, List.set_cons_succ, ↓reduceIte, Bool.not_true, Bool.not_false, true_and, and_true, not_true_eq_false, not_false_eq_true, decide_true, decide_false, Nat.reduceEqDiff, Nat.reduceAdd, Nat.reduceMul, Nat.reducePow, Int.reduceToNat, Int.reducePow, Nat.zero_add, Nat.mul_one, Int.toNat_natCast]
    rfl
  · rintro m e h' ⟨c, r, vo, of, rfl, hc, e0, e3, e4, oo, gp, fo, hol, hof, hE, hcl⟩
    have gn := gp.next
    have orr := oo.sl.r
    simp only [List.length_map, hol] at orr
    simp (maxSteps := 2000000) (disch := first | omega | assumption | (simp only [oneC_int, oneC_bool, oneC_str, oneC_ptr, oneC_sl, oneC_map]; done) | (simp only [List.length_cons, List.length_nil, List.length_set, List.length_map, List.length_replicate, List.length_append, List.length_take, List.length_drop, Int.toNat_natCast] <;> omega) | fail) only [Go.Rx.vi, Go.Rx.vb, Go.Rx.vstr, rxc, rxo, Nat.reduceLeDiff, List.getElem?_cons_zero, List.getElem?_cons_succ, List.length_cons, List.length_nil, List.set_cons_zero, List.set_cons_succ, ↓reduceIte, Bool.not_true, Bool.not_false, true_and, and_true, not_true_eq_false, not_false_eq_true, decide_true, decide_false, Nat.reduceEqDiff, Nat.reduceAdd, Nat.reduceMul, Nat.reducePow, Int.reduceToNat, Int.reducePow, Nat.zero_add, Nat.mul_one, Int.toNat_natCast, B46_0, R46_3, e0, e3, e4]
    have gm : GrowP h' (h'.new (.map [])) := (GrowP.refl h').new
    have hmb : (h'.new (.map [])).at h'.next = some (.map (([] : List (List UInt8 × Int)).map mpE)) := at_new_same
    have nm : (h'.new (.map [])).next = h'.next + 1 := rfl
    have ool := oo.1
    generalize h'.new (.map []) = h2 at gm hmb nm ⊢
    have oo2 := oo.gp gm
    have gp2 := gp.trans gm
    generalize h'.next = mb at hmb nm gn ool ⊢
    clear oo gp gm
    simp (maxSteps := 2000000) (disch := first | omega | assumption | (simp only [oneC_int, oneC_bool, oneC_str, oneC_ptr, oneC_sl, oneC_map]; done) | (simp only [List.length_cons, List.length_nil, List.length_set, List.length_map, List.length_replicate, List.length_append, List.length_take, List.length_drop, Int.toNat_natCast] <;> omega) | fail) only [Go.Rx.vi, Go.Rx.vb, Go.Rx.vstr, rxc, rxo, Nat.reduceLeDiff, List.getElem?_cons_zero, List.getElem?_cons_succ, List.length_cons, List.length_nil, List.set_cons_zero, List.set_cons_succ, ↓reduceIte, Bool.not_true, Bool.not_false, true_and, and_true, not_true_eq_false, not_false_eq_true, decide_true, decide_false, Nat.reduceEqDiff, Nat.reduceAdd, Nat.reduceMul, Nat.reducePow, Int.reduceToNat, Int.reducePow, Nat.zero_add, Nat.mul_one, Int.toNat_natCast, R46_4, e0, e3, e4, orr]
    refine WI_makec (by omega) (by omega) (by omega) (by omega) (by omega) (by decide) fun vx h3 ox g3 fx => ?_
    simp only [Int.toNat_natCast, ints_rep] at ox
    have n3 := g3.next
    have gp3 := gp2.trans g3
    have oo3 := oo2.gp g3
    have tv3 := tv.gp gp3
    have oxl := ox.1
    have hm3 : h3.at mb = some (.map (([] : List (List UInt8 × Int)).map mpE)) := by rw [g3.at_ _ (by omega) (by omega)]; exact hmb
    simp (maxSteps := 2000000) (disch := first | omega | assumption | (simp only [oneC_int, oneC_bool, oneC_str, oneC_ptr, oneC_sl, oneC_map]; done) | (simp only [List.length_cons, List.length_nil, List.length_set, List.length_map, List.length_replicate, List.length_append, List.length_take, List.length_drop, Int.toNat_natCast] <;> omega) | fail) only [Go.Rx.vi, Go.Rx.vb, Go.Rx.vstr, rxc, rxo, Nat.reduceLeDiff, List.getElem?_cons_zero, List.getElem?_cons_succ, List.length_cons, List.length_nil, List.set_cons_zero, List.set_cons_succ, ↓reduceIte, Bool.not_true, Bool.not_false, true_and, and_true, not_true_eq_false, not_false_eq_true, decide_true, decide_false, Nat.reduceEqDiff, Nat.reduceAdd, Nat.reduceMul, Nat.reducePow, Int.reduceToNat, Int.reducePow, Nat.zero_add, Nat.mul_one, Int.toNat_natCast, R46_5, e0, e3, e4, tv3.tab, tabC_257 tv.pl, wr0]
    refine WC_bloop 15 (fun m e h' => ∃ (s : Nat) (ps : List (List UInt8 × Int)) (nx : List Int), m = k - s ∧ s ≤ k ∧ e.g 0 = pB tb ∧ e.g 3 = vo ∧ e.g 4 = .int .i64 c ∧ e.g 5 = .map (some mb) ∧ e.g 6 = vx ∧ e.g 28 = wn ∧ e.g 29 = .int .i64 k ∧ e.g 30 = .int .i64 s ∧
        h'.at mb = some (.map (ps.map mpE)) ∧ Num ps ∧ ps.length ≤ s ∧ OwnV h' 3 vx (nx.map (.int .i64)) ∧ nx.length = k ∧ OwnV h' 3 vo (of.map (.int .i64)) ∧ GrowP h h' ∧ (∀ s' : Nat, s' < s → lkp ps (toK (keyL T Rl of s')) = some (nx.getD s' 0)) ∧ (∀ n : Nat, n < ps.length → ∃ s', s' < s ∧ nx.getD s' 0 = n))
      (fun e h' => ∃ (ps : List (List UInt8 × Int)) (nx : List Int), e.g 0 = pB tb ∧ e.g 4 = .int .i64 c ∧ e.g 5 = .map (some mb) ∧ e.g 6 = vx ∧
        h'.at mb = some (.map (ps.map mpE)) ∧ Num ps ∧ ps.length ≤ k ∧ OwnV h' 3 vx (nx.map (.int .i64)) ∧ nx.length = k ∧ GrowP h h' ∧ (∀ s' : Nat, s' < k → lkp ps (toK (keyL T Rl of s')) = some (nx.getD s' 0)) ∧ (∀ n : Nat, n < ps.length → ∃ s', s' < k ∧ nx.getD s' 0 = n)) ?_ ?_ ?_
    · refine ⟨_, 0, [], List.replicate k 0, rfl, by omega, ?_, ?_, ?_, ?_, ?_, ?_, ?_, ?_, hm3, Num.nil, by simp, ox, by simp, oo3, gp3, fun s' hs => by omega, fun n hn => by simp at hn⟩
      all_goals simp (maxSteps := 2000000) (disch := first | omega | assumption | (simp only [oneC_int, oneC_bool, oneC_str, oneC_ptr, oneC_sl, oneC_map]; done) | (simp only [List.length_cons, List.length_nil, List.length_set, List.length_map, List.length_replicate, List.length_append, List.length_take, List.length_drop, Int.toNat_natCast] <;> omega) | fail) only [Go.Rx.vi, Go.Rx.vb, Go.Rx.vstr, rxc, rxo, Nat.reduceLeDiff, List.getElem?_cons_zero, List.getElem?_cons_succ, List.length_cons, List.length_nil, List.set_cons_zero, List.set_cons_succ, ↓reduceIte, Bool.not_true, Bool.not_false, true_and, and_true, not_true_eq_false, not_false_eq_true, decide_true, decide_false, Nat.reduceEqDiff, Nat.reduceAdd, Nat.reduceMul, Nat.reducePow, Int.reduceToNat, Int.reducePow, Nat.zero_add, Nat.mul_one, Int.toNat_natCast, e0, e3, e4]
      rfl
    · rintro m e h' ⟨s, ps, nx, rfl, hs, e0, e3, e4, e5, e6, e28, e29, e30, hmp, hnum, hpl, ox, hnl, oo, gp, hlk, hsur⟩
      simp (maxSteps := 2000000) (disch := first | omega | assumption | (simp only [oneC_int, oneC_bool, oneC_str, oneC_ptr, oneC_sl, oneC_map]; done) | (simp only [List.length_cons, List.length_nil, List.length_set, List.length_map, List.length_replicate, List.length_append, List.length_take, List.length_drop, Int.toNat_natCast] <;> omega) | fail) only [Go.Rx.vi, Go.Rx.vb, Go.Rx.vstr, rxc, rxo, Nat.reduceLeDiff, List.getElem?_cons_zero, List.getElem?_cons_succ, List.length_cons, List.length_nil, List.set_cons_zero, List.set_cons_succ, ↓reduceIte, Bool.not_true, Bool.not_false, true_and, and_true, not_true_eq_false, not_false_eq_true, decide_true, decide_false, Nat.reduceEqDiff, Nat.reduceAdd, Nat.reduceMul, Nat.reducePow, Int.reduceToNat, Int.reducePow, Nat.zero_add, Nat.mul_one, Int.toNat_natCast, B46_1, R46_6, e0, e3, e4, e5, e6, e28, e29, e30]
      refine WCond_dec (fun hc2 => ?_) (fun hc2 => ?_)
      · have tv4 := tv.gp gp
        have rr := (tv4.row s (by omega)).sl.r
        have hws := k6 s (by omega)
        have qr := tv4.or_.sl.r
        have orr := oo.sl.r
        have wr4 := tv4.on.sl.r
        have hrs := k7 s (by omega)
        have hofs := hof s (by omega)
        simp only [List.length_map, hws, k2, hol, hwl] at rr qr orr wr4
        have gn := gp.next
        have ool' := oo.1
        have oxl' := ox.1
        have hmlt : mb < h'.next := by omega
        simp (maxSteps := 2000000) (disch := first | omega | assumption | (simp only [oneC_int, oneC_bool, oneC_str, oneC_ptr, oneC_sl, oneC_map]; done) | (simp only [List.length_cons, List.length_nil, List.length_set, List.length_map, List.length_replicate, List.length_append, List.length_take, List.length_drop, Int.toNat_natCast] <;> omega) | fail) only [Go.Rx.vi, Go.Rx.vb, Go.Rx.vstr, rxc, rxo, Nat.reduceLeDiff, List.getElem?_cons_zero, List.getElem?_cons_succ, List.length_cons, List.length_nil, List.set_cons_zero, List.set_cons_succ, ↓reduceIte, Bool.not_true, Bool.not_false, true_and, and_true, not_true_eq_false, not_false_eq_true, decide_true, decide_false, Nat.reduceEqDiff, Nat.reduceAdd, Nat.reduceMul, Nat.reducePow, Int.reduceToNat, Int.reducePow, Nat.zero_add, Nat.mul_one, Int.toNat_natCast, R46_7, e0, e3, e4, e5, e6, e28, e29, e30, wr4, vals_get (l := ws)]
        refine WC_regd hm ?_
        simp (maxSteps := 2000000) (disch := first | omega | assumption | (simp only [oneC_int, oneC_bool, oneC_str, oneC_ptr, oneC_sl, oneC_map]; done) | (simp only [List.length_cons, List.length_nil, List.length_set, List.length_map, List.length_replicate, List.length_append, List.length_take, List.length_drop, Int.toNat_natCast] <;> omega) | fail) only [Go.Rx.vi, Go.Rx.vb, Go.Rx.vstr, rxc, rxo, Nat.reduceLeDiff, List.getElem?_cons_zero, List.getElem?_cons_succ, List.length_cons, List.length_nil, List.set_cons_zero, List.set_cons_succ, ↓reduceIte, Bool.not_true, Bool.not_false, true_and, and_true, not_true_eq_false, not_false_eq_true, decide_true, decide_false, Nat.reduceEqDiff, Nat.reduceAdd, Nat.reduceMul, Nat.reducePow, Int.reduceToNat, Int.reducePow, Nat.zero_add, Nat.mul_one, Int.toNat_natCast, R46_8, rxt, e0, e3, e4, e5, e6, e28, e29, e30, tv4.tab, tabC_258 tv.pl, qr, ints_get]
        refine put_ok hO73 hF73 (bs := []) (by omega) ⟨by show 0 < _; omega, .inl ⟨rfl, rfl⟩⟩ (by simp) (by omega) (by omega) fun kv h4 ok4 c4 f4 => ?_
        have z0 : bno (Value.slice none 0 0) = 0 := rfl
        rw [z0] at c4 f4
        have g4 : GrowP h' h4 := ⟨c4.next, fun b h1 h2 => c4.at_ b h2 (by omega)⟩
        have orr4 := (oo.gp g4).sl.r
        simp only [List.length_map, hol] at orr4
        have n4 := g4.next
        simp (maxSteps := 2000000) (disch := first | omega | assumption | (simp only [oneC_int, oneC_bool, oneC_str, oneC_ptr, oneC_sl, oneC_map]; done) | (simp only [List.length_cons, List.length_nil, List.length_set, List.length_map, List.length_replicate, List.length_append, List.length_take, List.length_drop, Int.toNat_natCast] <;> omega) | fail) only [Go.Rx.vi, Go.Rx.vb, Go.Rx.vstr, rxc, rxo, Nat.reduceLeDiff, List.getElem?_cons_zero, List.getElem?_cons_succ, List.length_cons, List.length_nil, List.set_cons_zero, List.set_cons_succ, ↓reduceIte, Bool.not_true, Bool.not_false, true_and, and_true, not_true_eq_false, not_false_eq_true, decide_true, decide_false, Nat.reduceEqDiff, Nat.reduceAdd, Nat.reduceMul, Nat.reducePow, Int.reduceToNat, Int.reducePow, Nat.zero_add, Nat.mul_one, Int.toNat_natCast, rxt, e0, e3, e4, e5, e6, e28, e29, e30, orr4, ints_get]
        refine put_ok hO73 hF73 (by omega) ok4 (by simp [enc]) (by omega) (by omega) fun kv h5 ok5 c5 f5 => ?_
        simp (maxSteps := 2000000) (disch := first | omega | assumption | (simp only [oneC_int, oneC_bool, oneC_str, oneC_ptr, oneC_sl, oneC_map]; done) | (simp only [List.length_cons, List.length_nil, List.length_set, List.length_map, List.length_replicate, List.length_append, List.length_take, List.length_drop, Int.toNat_natCast] <;> omega) | fail) only [Go.Rx.vi, Go.Rx.vb, Go.Rx.vstr, rxc, rxo, Nat.reduceLeDiff, List.getElem?_cons_zero, List.getElem?_cons_succ, List.length_cons, List.length_nil, List.set_cons_zero, List.set_cons_succ, ↓reduceIte, Bool.not_true, Bool.not_false, true_and, and_true, not_true_eq_false, not_false_eq_true, decide_true, decide_false, Nat.reduceEqDiff, Nat.reduceAdd, Nat.reduceMul, Nat.reducePow, Int.reduceToNat, Int.reducePow, Nat.zero_add, Nat.mul_one, Int.toNat_natCast, rxt, e0, e3, e4, e5, e6, e28, e29, e30]
        refine ⟨staysAll_one rfl rfl (stays_on (v := .int .i64 (of.getD s 0)) (h' := h') rfl ?_ ?_) (stays_on (v := .int .i64 (of.getD s 0)) (h' := h4) rfl ?_ ?_), ?_⟩
        · simp (maxSteps := 2000000) (disch := first | omega | assumption | (simp only [oneC_int, oneC_bool, oneC_str, oneC_ptr, oneC_sl, oneC_map]; done) | (simp only [List.length_cons, List.length_nil, List.length_set, List.length_map, List.length_replicate, List.length_append, List.length_take, List.length_drop, Int.toNat_natCast] <;> omega) | fail) only [Go.Rx.vi, Go.Rx.vb, Go.Rx.vstr, rxc, rxo, Nat.reduceLeDiff, List.getElem?_cons_zero, List.getElem?_cons_succ, List.length_cons, List.length_nil, List.set_cons_zero, List.set_cons_succ, ↓reduceIte, Bool.not_true, Bool.not_false, true_and, and_true, not_true_eq_false, not_false_eq_true, decide_true, decide_false, Nat.reduceEqDiff, Nat.reduceAdd, Nat.reduceMul, Nat.reducePow, Int.reduceToNat, Int.reducePow, Nat.zero_add, Nat.mul_one, Int.toNat_natCast, orr, ints_get]
        · simp (maxSteps := 2000000) (disch := first | omega | assumption | (simp only [oneC_int, oneC_bool, oneC_str, oneC_ptr, oneC_sl, oneC_map]; done) | (simp only [List.length_cons, List.length_nil, List.length_set, List.length_map, List.length_replicate, List.length_append, List.length_take, List.length_drop, Int.toNat_natCast] <;> omega) | fail) only [Go.Rx.vi, Go.Rx.vb, Go.Rx.vstr, rxc, rxo, Nat.reduceLeDiff, List.getElem?_cons_zero, List.getElem?_cons_succ, List.length_cons, List.length_nil, List.set_cons_zero, List.set_cons_succ, ↓reduceIte, Bool.not_true, Bool.not_false, true_and, and_true, not_true_eq_false, not_false_eq_true, decide_true, decide_false, Nat.reduceEqDiff, Nat.reduceAdd, Nat.reduceMul, Nat.reducePow, Int.reduceToNat, Int.reducePow, Nat.zero_add, Nat.mul_one, Int.toNat_natCast, sameA_int]
        · simp (maxSteps := 2000000) (disch := first | omega | assumption | (simp only [oneC_int, oneC_bool, oneC_str, oneC_ptr, oneC_sl, oneC_map]; done) | (simp only [List.length_cons, List.length_nil, List.length_set, List.length_map, List.length_replicate, List.length_append, List.length_take, List.length_drop, Int.toNat_natCast] <;> omega) | fail) only [Go.Rx.vi, Go.Rx.vb, Go.Rx.vstr, rxc, rxo, Nat.reduceLeDiff, List.getElem?_cons_zero, List.getElem?_cons_succ, List.length_cons, List.length_nil, List.set_cons_zero, List.set_cons_succ, ↓reduceIte, Bool.not_true, Bool.not_false, true_and, and_true, not_true_eq_false, not_false_eq_true, decide_true, decide_false, Nat.reduceEqDiff, Nat.reduceAdd, Nat.reduceMul, Nat.reducePow, Int.reduceToNat, Int.reducePow, Nat.zero_add, Nat.mul_one, Int.toNat_natCast, orr4, ints_get]
        · simp (maxSteps := 2000000) (disch := first | omega | assumption | (simp only [oneC_int, oneC_bool, oneC_str, oneC_ptr, oneC_sl, oneC_map]; done) | (simp only [List.length_cons, List.length_nil, List.length_set, List.length_map, List.length_replicate, List.length_append, List.length_take, List.length_drop, Int.toNat_natCast] <;> omega) | fail) only [Go.Rx.vi, Go.Rx.vb, Go.Rx.vstr, rxc, rxo, Nat.reduceLeDiff, List.getElem?_cons_zero, List.getElem?_cons_succ, List.length_cons, List.length_nil, List.set_cons_zero, List.set_cons_succ, ↓reduceIte, Bool.not_true, Bool.not_false, true_and, and_true, not_true_eq_false, not_false_eq_true, decide_true, decide_false, Nat.reduceEqDiff, Nat.reduceAdd, Nat.reduceMul, Nat.reducePow, Int.reduceToNat, Int.reducePow, Nat.zero_add, Nat.mul_one, Int.toNat_natCast, sameA_int]
        have g5 : GrowP h' h5 := g4.chg c5 (by omega)
        have hkv : bno kv = 0 ∨ h'.next ≤ bno kv := by omega
        have n5 := g5.next
        simp (maxSteps := 2000000) (disch := first | omega | assumption | (simp only [oneC_int, oneC_bool, oneC_str, oneC_ptr, oneC_sl, oneC_map]; done) | (simp only [List.length_cons, List.length_nil, List.length_set, List.length_map, List.length_replicate, List.length_append, List.length_take, List.length_drop, Int.toNat_natCast] <;> omega) | fail) only [Go.Rx.vi, Go.Rx.vb, Go.Rx.vstr, rxc, rxo, Nat.reduceLeDiff, List.getElem?_cons_zero, List.getElem?_cons_succ, List.length_cons, List.length_nil, List.set_cons_zero, List.set_cons_succ, ↓reduceIte, Bool.not_true, Bool.not_false, true_and, and_true, not_true_eq_false, not_false_eq_true, decide_true, decide_false, Nat.reduceEqDiff, Nat.reduceAdd, Nat.reduceMul, Nat.reducePow, Int.reduceToNat, Int.reducePow, Nat.zero_add, Nat.mul_one, Int.toNat_natCast, R46_9, e0, e3, e4, e5, e6, e28, e29, e30, rr]
        refine WC_bloop 15 (fun m e hh => ∃ (j : Nat) (kv : Value), m = nb - j ∧ j ≤ nb ∧ e.g 0 = pB tb ∧ e.g 3 = vo ∧ e.g 4 = .int .i64 c ∧ e.g 5 = .map (some mb) ∧ e.g 6 = vx ∧ e.g 7 = .int .i64 s ∧ e.g 9 = kv ∧ e.g 28 = wn ∧ e.g 29 = .int .i64 k ∧ e.g 30 = .int .i64 s ∧ e.g 48 = ws.getD s undef ∧ e.g 49 = .int .i64 nb ∧ e.g 50 = .int .i64 j ∧
            OwnV hh 5 kv ((enc (Rl.getD s 0) ++ enc (of.getD s 0) ++ (((T.getD s []).take j).map fun x => enc (blk of x)).flatten).map (.int .u8)) ∧ (bno kv = 0 ∨ h'.next ≤ bno kv) ∧ GrowP h' hh)
          (fun e hh => ∃ (kv : Value), e.g 0 = pB tb ∧ e.g 3 = vo ∧ e.g 4 = .int .i64 c ∧ e.g 5 = .map (some mb) ∧ e.g 6 = vx ∧ e.g 7 = .int .i64 s ∧ e.g 9 = kv ∧ e.g 28 = wn ∧ e.g 29 = .int .i64 k ∧ e.g 30 = .int .i64 s ∧
            OwnV hh 5 kv ((keyL T Rl of s).map (.int .u8)) ∧ GrowP h' hh) ?_ ?_ ?_
        · refine ⟨_, 0, kv, rfl, by omega, ?_, ?_, ?_, ?_, ?_, ?_, ?_, ?_, ?_, ?_, ?_, ?_, ?_, by simpa using ok5, hkv, g5⟩
          all_goals simp (maxSteps := 2000000) (disch := first | omega | assumption | (simp only [oneC_int, oneC_bool, oneC_str, oneC_ptr, oneC_sl, oneC_map]; done) | (simp only [List.length_cons, List.length_nil, List.length_set, List.length_map, List.length_replicate, List.length_append, List.length_take, List.length_drop, Int.toNat_natCast] <;> omega) | fail) only [Go.Rx.vi, Go.Rx.vb, Go.Rx.vstr, rxc, rxo, Nat.reduceLeDiff, List.getElem?_cons_zero, List.getElem?_cons_succ, List.length_cons, List.length_nil, List.set_cons_zero, List.set_cons_succ, ↓reduceIte, Bool.not_true, Bool.not_false, true_and, and_true, not_true_eq_false, not_false_eq_true, decide_true, decide_false, Nat.reduceEqDiff, Nat.reduceAdd, Nat.reduceMul, Nat.reducePow, Int.reduceToNat, Int.reducePow, Nat.zero_add, Nat.mul_one, Int.toNat_natCast, e0, e3, e4, e5, e6, e28, e29, e30]
          rfl
        · rintro m e hh ⟨j, kv, rfl, hj, e0, e3, e4, e5, e6, e7, e9, e28, e29, e30, e48, e49, e50, okv, hkv, gh⟩
          have gph := gp.trans gh
          have rr := ((tv.gp gph).row s (by omega)).sl.r
          have orr := (oo.gp gh).sl.r
          simp only [List.length_map, hws, hol] at rr orr
          have nh := gh.next
          simp (maxSteps := 2000000) (disch := first | omega | assumption | (simp only [oneC_int, oneC_bool, oneC_str, oneC_ptr, oneC_sl, oneC_map]; done) | (simp only [List.length_cons, List.length_nil, List.length_set, List.length_map, List.length_replicate, List.length_append, List.length_take, List.length_drop, Int.toNat_natCast] <;> omega) | fail) only [Go.Rx.vi, Go.Rx.vb, Go.Rx.vstr, rxc, rxo, Nat.reduceLeDiff, List.getElem?_cons_zero, List.getElem?_cons_succ, List.length_cons, List.length_nil, List.set_cons_zero, List.set_cons_succ, ↓reduceIte, Bool.not_true, Bool.not_false, true_and, and_true, not_true_eq_false, not_false_eq_true, decide_true, decide_false, Nat.reduceEqDiff, Nat.reduceAdd, Nat.reduceMul, Nat.reducePow, Int.reduceToNat, Int.reducePow, Nat.zero_add, Nat.mul_one, Int.toNat_natCast, B46_2, R46_10, e0, e3, e4, e5, e6, e7, e9, e28, e29, e30, e48, e49, e50]
          refine WCond_dec (fun hc3 => ?_) (fun hc3 => ?_)
          · have hto := k8 s (by omega) j (by omega)
            have hlen := flat_enc_len (of := of) ((T.getD s []).take j)
            rw [List.length_take] at hlen
            have hsn : (((T.getD s []).take (j + 1)).map fun x => enc (blk of x)).flatten = (((T.getD s []).take j).map fun x => enc (blk of x)).flatten ++ enc (blk of ((T.getD s []).getD j 0)) := by
              rw [take_snoc (by omega)]; simp
            simp (maxSteps := 2000000) (disch := first | omega | assumption | (simp only [oneC_int, oneC_bool, oneC_str, oneC_ptr, oneC_sl, oneC_map]; done) | (simp only [List.length_cons, List.length_nil, List.length_set, List.length_map, List.length_replicate, List.length_append, List.length_take, List.length_drop, Int.toNat_natCast] <;> omega) | fail) only [Go.Rx.vi, Go.Rx.vb, Go.Rx.vstr, rxc, rxo, Nat.reduceLeDiff, List.getElem?_cons_zero, List.getElem?_cons_succ, List.length_cons, List.length_nil, List.set_cons_zero, List.set_cons_succ, ↓reduceIte, Bool.not_true, Bool.not_false, true_and, and_true, not_true_eq_false, not_false_eq_true, decide_true, decide_false, Nat.reduceEqDiff, Nat.reduceAdd, Nat.reduceMul, Nat.reducePow, Int.reduceToNat, Int.reducePow, Nat.zero_add, Nat.mul_one, Int.toNat_natCast, R46_11, e0, e3, e4, e5, e6, e7, e9, e28, e29, e30, e48, e49, e50, rr, ints_get, R46_12, R46_13]
            refine WCond_dec (fun hc4 => ?_) (fun hc4 => ?_)
            · have hofj := hof ((T.getD s []).getD j 0).toNat (by omega)
              have hblk : blk of ((T.getD s []).getD j 0) = of.getD ((T.getD s []).getD j 0).toNat 0 := by unfold blk; rw [if_pos hc4]
              rw [hblk] at hsn
              simp (maxSteps := 2000000) (disch := first | omega | assumption | (simp only [oneC_int, oneC_bool, oneC_str, oneC_ptr, oneC_sl, oneC_map]; done) | (simp only [List.length_cons, List.length_nil, List.length_set, List.length_map, List.length_replicate, List.length_append, List.length_take, List.length_drop, Int.toNat_natCast] <;> omega) | fail) only [Go.Rx.vi, Go.Rx.vb, Go.Rx.vstr, rxc, rxo, Nat.reduceLeDiff, List.getElem?_cons_zero, List.getElem?_cons_succ, List.length_cons, List.length_nil, List.set_cons_zero, List.set_cons_succ, ↓reduceIte, Bool.not_true, Bool.not_false, true_and, and_true, not_true_eq_false, not_false_eq_true, decide_true, decide_false, Nat.reduceEqDiff, Nat.reduceAdd, Nat.reduceMul, Nat.reducePow, Int.reduceToNat, Int.reducePow, Nat.zero_add, Nat.mul_one, Int.toNat_natCast, R46_14, e0, e3, e4, e5, e6, e7, e9, e28, e29, e30, e48, e49, e50, orr, ints_get, R46_15]
              refine put_ok hO73 hF73 (by omega) okv (by simp only [List.length_append]; rw [hlen]; simp [enc]; omega) (by omega) (by omega) fun kv' h6 ok6 c6 f6 => ?_
              simp (maxSteps := 2000000) (disch := first | omega | assumption | (simp only [oneC_int, oneC_bool, oneC_str, oneC_ptr, oneC_sl, oneC_map]; done) | (simp only [List.length_cons, List.length_nil, List.length_set, List.length_map, List.length_replicate, List.length_append, List.length_take, List.length_drop, Int.toNat_natCast] <;> omega) | fail) only [Go.Rx.vi, Go.Rx.vb, Go.Rx.vstr, rxc, rxo, Nat.reduceLeDiff, List.getElem?_cons_zero, List.getElem?_cons_succ, List.length_cons, List.length_nil, List.set_cons_zero, List.set_cons_succ, ↓reduceIte, Bool.not_true, Bool.not_false, true_and, and_true, not_true_eq_false, not_false_eq_true, decide_true, decide_false, Nat.reduceEqDiff, Nat.reduceAdd, Nat.reduceMul, Nat.reducePow, Int.reduceToNat, Int.reducePow, Nat.zero_add, Nat.mul_one, Int.toNat_natCast, e0, e3, e4, e5, e6, e7, e9, e28, e29, e30, e48, e49, e50, R46_16]
              refine ⟨_, by omega, j + 1, kv', rfl, by omega, rfl, by simp, ?_, by omega, gh.chg c6 hkv⟩
              rw [hsn, ← List.append_assoc]; exact ok6
            · have hblk : blk of ((T.getD s []).getD j 0) = -1 := by unfold blk; rw [if_neg hc4]
              rw [hblk] at hsn
              simp (maxSteps := 2000000) (disch := first | omega | assumption | (simp only [oneC_int, oneC_bool, oneC_str, oneC_ptr, oneC_sl, oneC_map]; done) | (simp only [List.length_cons, List.length_nil, List.length_set, List.length_map, List.length_replicate, List.length_append, List.length_take, List.length_drop, Int.toNat_natCast] <;> omega) | fail) only [Go.Rx.vi, Go.Rx.vb, Go.Rx.vstr, rxc, rxo, Nat.reduceLeDiff, List.getElem?_cons_zero, List.getElem?_cons_succ, List.length_cons, List.length_nil, List.set_cons_zero, List.set_cons_succ, ↓reduceIte, Bool.not_true, Bool.not_false, true_and, and_true, not_true_eq_false, not_false_eq_true, decide_true, decide_false, Nat.reduceEqDiff, Nat.reduceAdd, Nat.reduceMul, Nat.reducePow, Int.reduceToNat, Int.reducePow, Nat.zero_add, Nat.mul_one, Int.toNat_natCast, e0, e3, e4, e5, e6, e7, e9, e28, e29, e30, e48, e49, e50, R46_15]
              refine put_ok hO73 hF73 (by omega) okv (by simp only [List.length_append]; rw [hlen]; simp [enc]; omega) (by omega) (by omega) fun kv' h6 ok6 c6 f6 => ?_
              simp (maxSteps := 2000000) (disch := first | omega | assumption | (simp only [oneC_int, oneC_bool, oneC_str, oneC_ptr, oneC_sl, oneC_map]; done) | (simp only [List.length_cons, List.length_nil, List.length_set, List.length_map, List.length_replicate, List.length_append, List.length_take, List.length_drop, Int.toNat_natCast] <;> omega) | fail) only [Go.Rx.vi, Go.Rx.vb, Go.Rx.vstr, rxc, rxo, Nat.reduceLeDiff, List.getElem?_cons_zero, List.getElem?_cons_succ, List.length_cons, List.length_nil, List.set_cons_zero, List.set_cons_succ, ↓reduceIte, Bool.not_true, Bool.not_false, true_and, and_true, not_true_eq_false, not_false_eq_true, decide_true, decide_false, Nat.reduceEqDiff, Nat.reduceAdd, Nat.reduceMul, Nat.reducePow, Int.reduceToNat, Int.reducePow, Nat.zero_add, Nat.mul_one, Int.toNat_natCast, e0, e3, e4, e5, e6, e7, e9, e28, e29, e30, e48, e49, e50, R46_16]
              refine ⟨_, by omega, j + 1, kv', rfl, by omega, rfl, by simp, ?_, by omega, gh.chg c6 hkv⟩
              rw [hsn, ← List.append_assoc]; exact ok6
          · have hjn : j = nb := by omega
            subst hjn
            rw [List.take_of_length_le (by omega)] at okv
            simp (maxSteps := 2000000) (disch := first | omega | assumption | (simp only [oneC_int, oneC_bool, oneC_str, oneC_ptr, oneC_sl, oneC_map]; done) | (simp only [List.length_cons, List.length_nil, List.length_set, List.length_map, List.length_replicate, List.length_append, List.length_take, List.length_drop, Int.toNat_natCast] <;> omega) | fail) only [Go.Rx.vi, Go.Rx.vb, Go.Rx.vstr, rxc, rxo, Nat.reduceLeDiff, List.getElem?_cons_zero, List.getElem?_cons_succ, List.length_cons, List.length_nil, List.set_cons_zero, List.set_cons_succ, ↓reduceIte, Bool.not_true, Bool.not_false, true_and, and_true, not_true_eq_false, not_false_eq_true, decide_true, decide_false, Nat.reduceEqDiff, Nat.reduceAdd, Nat.reduceMul, Nat.reducePow, Int.reduceToNat, Int.reducePow, Nat.zero_add, Nat.mul_one, Int.toNat_natCast, e0, e3, e4, e5, e6, e7, e9, e28, e29, e30]
            exact ⟨kv, rfl, okv, gh⟩
        · rintro e hh ⟨kv, e0, e3, e4, e5, e6, e7, e9, e28, e29, e30, okv, gh⟩
          have hmh : hh.at mb = some (.map (ps.map mpE)) := by rw [gh.at_ _ (by omega) hmlt]; exact hmp
          have oxh := ox.gp gh
          have ooh := oo.gp gh
          have gph := gp.trans gh
          have xr := oxh.sl.r
          simp only [List.length_map, hnl] at xr
          cases hlq : lkp ps (toK (keyL T Rl of s)) with
          | some n =>
            simp (maxSteps := 2000000) (disch := first | omega | assumption | (simp only [oneC_int, oneC_bool, oneC_str, oneC_ptr, oneC_sl, oneC_map]; done) | (simp only [List.length_cons, List.length_nil, List.length_set, List.length_map, List.length_replicate, List.length_append, List.length_take, List.length_drop, Int.toNat_natCast] <;> omega) | fail) only [Go.Rx.vi, Go.Rx.vb, Go.Rx.vstr, rxc, rxo, Nat.reduceLeDiff, List.getElem?_cons_zero, List.getElem?_cons_succ, List.length_cons, List.length_nil, List.set_cons_zero, List.set_cons_succ, ↓reduceIte, Bool.not_true, Bool.not_false, true_and, and_true, not_true_eq_false, not_false_eq_true, decide_true, decide_false, Nat.reduceEqDiff, Nat.reduceAdd, Nat.reduceMul, Nat.reducePow, Int.reduceToNat, Int.reducePow, Nat.zero_add, Nat.mul_one, Int.toNat_natCast, R46_17, e0, e3, e4, e5, e6, e7, e9, e28, e29, e30, iB2s_sl okv.sl, look_some hmh hlq, iExt_tuple, R46_18, unV_not, R46_21, xr]
            refine WI_storec oxh (by rw [List.length_map]; omega) rfl fun h6 o6 c6 => ?_
            rw [ints_set] at o6
            simp (maxSteps := 2000000) (disch := first | omega | assumption | (simp only [oneC_int, oneC_bool, oneC_str, oneC_ptr, oneC_sl, oneC_map]; done) | (simp only [List.length_cons, List.length_nil, List.length_set, List.length_map, List.length_replicate, List.length_append, List.length_take, List.length_drop, Int.toNat_natCast] <;> omega) | fail) only [Go.Rx.vi, Go.Rx.vb, Go.Rx.vstr, rxc, rxo, Nat.reduceLeDiff, List.getElem?_cons_zero, List.getElem?_cons_succ, List.length_cons, List.length_nil, List.set_cons_zero, List.set_cons_succ, ↓reduceIte, Bool.not_true, Bool.not_false, true_and, and_true, not_true_eq_false, not_false_eq_true, decide_true, decide_false, Nat.reduceEqDiff, Nat.reduceAdd, Nat.reduceMul, Nat.reducePow, Int.reduceToNat, Int.reducePow, Nat.zero_add, Nat.mul_one, Int.toNat_natCast, e0, e3, e4, e5, e6, e7, e9, e28, e29, e30, R46_22]
            refine ⟨_, by omega, s + 1, ps, nx.set s n, rfl, by omega, by simp, ?_, hnum, by omega, o6, by simp [hnl], ooh.chg c6 (by omega), gph.chg c6 (by omega), ?_, ?_⟩
            · rw [c6.at_ _ (by have := gh.next; omega) (by omega)]; exact hmh
            · intro s' hs'
              rw [getD_set (by omega)]
              by_cases hss : s = s'
              · subst hss; rw [if_pos rfl]; exact hlq
              · rw [if_neg hss]; exact hlk s' (by omega)
            · intro n' hn'
              obtain ⟨s', h1, h2⟩ := hsur n' hn'
              exact ⟨s', by omega, by rw [getD_set (by omega), if_neg (by omega)]; exact h2⟩
          | none =>
            simp (maxSteps := 2000000) (disch := first | omega | assumption | (simp only [oneC_int, oneC_bool, oneC_str, oneC_ptr, oneC_sl, oneC_map]; done) | (simp only [List.length_cons, List.length_nil, List.length_set, List.length_map, List.length_replicate, List.length_append, List.length_take, List.length_drop, Int.toNat_natCast] <;> omega) | fail) only [Go.Rx.vi, Go.Rx.vb, Go.Rx.vstr, rxc, rxo, Nat.reduceLeDiff, List.getElem?_cons_zero, List.getElem?_cons_succ, List.length_cons, List.length_nil, List.set_cons_zero, List.set_cons_succ, ↓reduceIte, Bool.not_true, Bool.not_false, true_and, and_true, not_true_eq_false, not_false_eq_true, decide_true, decide_false, Nat.reduceEqDiff, Nat.reduceAdd, Nat.reduceMul, Nat.reducePow, Int.reduceToNat, Int.reducePow, Nat.zero_add, Nat.mul_one, Int.toNat_natCast, R46_17, e0, e3, e4, e5, e6, e7, e9, e28, e29, e30, iB2s_sl okv.sl, look_none hmh hlq, iExt_tuple, R46_18, unV_not, R46_19, lenm_map hmh, R46_20, List.length_map, mset_none hmh hlq]
            have cs : Chg mb hh (hh.set mb (some (.map ((ps ++ [(toK (keyL T Rl of s), (ps.length : Int))]).map mpE)))) := Chg.set
            have hms : (hh.set mb (some (.map ((ps ++ [(toK (keyL T Rl of s), (ps.length : Int))]).map mpE)))).at mb = some (.map ((ps ++ [(toK (keyL T Rl of s), (ps.length : Int))]).map mpE)) := at_set_same
            generalize hh.set mb (some (.map ((ps ++ [(toK (keyL T Rl of s), (ps.length : Int))]).map mpE))) = h6 at cs hms ⊢
            have ox6 := oxh.chg cs (by omega)
            simp (maxSteps := 2000000) (disch := first | omega | assumption | (simp only [oneC_int, oneC_bool, oneC_str, oneC_ptr, oneC_sl, oneC_map]; done) | (simp only [List.length_cons, List.length_nil, List.length_set, List.length_map, List.length_replicate, List.length_append, List.length_take, List.length_drop, Int.toNat_natCast] <;> omega) | fail) only [Go.Rx.vi, Go.Rx.vb, Go.Rx.vstr, rxc, rxo, Nat.reduceLeDiff, List.getElem?_cons_zero, List.getElem?_cons_succ, List.length_cons, List.length_nil, List.set_cons_zero, List.set_cons_succ, ↓reduceIte, Bool.not_true, Bool.not_false, true_and, and_true, not_true_eq_false, not_false_eq_true, decide_true, decide_false, Nat.reduceEqDiff, Nat.reduceAdd, Nat.reduceMul, Nat.reducePow, Int.reduceToNat, Int.reducePow, Nat.zero_add, Nat.mul_one, Int.toNat_natCast, R46_21, e0, e3, e4, e5, e6, e7, e9, e28, e29, e30, xr]
            refine WI_storec ox6 (by rw [List.length_map]; omega) rfl fun h7 o7 c7 => ?_
            rw [ints_set] at o7
            simp (maxSteps := 2000000) (disch := first | omega | assumption | (simp only [oneC_int, oneC_bool, oneC_str, oneC_ptr, oneC_sl, oneC_map]; done) | (simp only [List.length_cons, List.length_nil, List.length_set, List.length_map, List.length_replicate, List.length_append, List.length_take, List.length_drop, Int.toNat_natCast] <;> omega) | fail) only [Go.Rx.vi, Go.Rx.vb, Go.Rx.vstr, rxc, rxo, Nat.reduceLeDiff, List.getElem?_cons_zero, List.getElem?_cons_succ, List.length_cons, List.length_nil, List.set_cons_zero, List.set_cons_succ, ↓reduceIte, Bool.not_true, Bool.not_false, true_and, and_true, not_true_eq_false, not_false_eq_true, decide_true, decide_false, Nat.reduceEqDiff, Nat.reduceAdd, Nat.reduceMul, Nat.reducePow, Int.reduceToNat, Int.reducePow, Nat.zero_add, Nat.mul_one, Int.toNat_natCast, e0, e3, e4, e5, e6, e7, e9, e28, e29, e30, R46_22]
            refine ⟨_, by omega, s + 1, ps ++ [(toK (keyL T Rl of s), (ps.length : Int))], nx.set s ps.length, rfl, by omega, by simp, ?_, hnum.add hlq, by simp; omega, o7, by simp [hnl], (ooh.chg cs (by omega)).chg c7 (by omega), (gph.chg cs (by omega)).chg c7 (by omega), ?_, ?_⟩
            · rw [c7.at_ _ (by have := gh.next; have := cs.next; omega) (by omega)]; exact hms
            · intro s' hs'
              rw [getD_set (by omega), lkp_app]
              by_cases hss : s = s'
              · subst hss; rw [if_pos rfl, hlq]; simp
              · rw [if_neg hss, hlk s' (by omega)]
            · intro n' hn'
              rw [List.length_append, List.length_singleton] at hn'
              by_cases hnn : n' < ps.length
              · obtain ⟨s', h1, h2⟩ := hsur n' hnn
                exact ⟨s', by omega, by rw [getD_set (by omega), if_neg (by omega)]; exact h2⟩
              · exact ⟨s, by omega, by rw [getD_set (by omega), if_pos rfl]; omega⟩
      · have hsk : s = k := by omega
        rw [hsk] at hpl hlk hsur
        simp (maxSteps := 2000000) (disch := first | omega | assumption | (simp only [oneC_int, oneC_bool, oneC_str, oneC_ptr, oneC_sl, oneC_map]; done) | (simp only [List.length_cons, List.length_nil, List.length_set, List.length_map, List.length_replicate, List.length_append, List.length_take, List.length_drop, Int.toNat_natCast] <;> omega) | fail) only [Go.Rx.vi, Go.Rx.vb, Go.Rx.vstr, rxc, rxo, Nat.reduceLeDiff, List.getElem?_cons_zero, List.getElem?_cons_succ, List.length_cons, List.length_nil, List.set_cons_zero, List.set_cons_succ, ↓reduceIte, Bool.not_true, Bool.not_false, true_and, and_true, not_true_eq_false, not_false_eq_true, decide_true, decide_false, Nat.reduceEqDiff, Nat.reduceAdd, Nat.reduceMul, Nat.reducePow, Int.reduceToNat, Int.reducePow, Nat.zero_add, Nat.mul_one, Int.toNat_natCast, e0, e4, e5, e6]
        exact ⟨ps, nx, hmp, hnum, hpl, ox, hnl, gp, hlk, hsur⟩
    · rintro e h' ⟨ps, nx, e0, e4, e5, e6, hmp, hnum, hpl, ox, hnl, gp, hlk, hsur⟩
      have hnx : ∀ s, s < k → 0 ≤ nx.getD s 0 ∧ nx.getD s 0 < ps.length := fun s hs => by
        obtain ⟨a, b, _⟩ := hnum.get (hlk s hs); exact ⟨a, b⟩
      have hto : ∀ s, s < k → ∀ j, j < nb → (T.getD s []).getD j 0 < k := fun s hs j hj => (k8 s hs j hj).2
      have hE' : ∀ s t, s < k → t < k → (nx.getD s 0 = nx.getD t 0 ↔ Eqv T Rl nb (r + 1) s t) := fun s t hs ht => by
        rw [← keyL_iff k4 k7 hof k6 hto hE hs ht]
        constructor
        · intro he
          have h1 := hlk s hs
          rw [he] at h1
          exact toK_inj (keyL_range k4 k7 hof k6 hto hs) (keyL_range k4 k7 hof k6 hto ht) (hnum.inj h1 (hlk t ht))
        · intro he
          have h1 := hlk s hs
          rw [he, hlk t ht] at h1
          exact (Option.some.inj h1).symm
      have h50 := hnx 0 (by omega)
      simp (maxSteps := 2000000) (disch := first | omega | assumption | (simp only [oneC_int, oneC_bool, oneC_str, oneC_ptr, oneC_sl, oneC_map]; done) | (simp only [List.length_cons, List.length_nil, List.length_set, List.length_map, List.length_replicate, List.length_append, List.length_take, List.length_drop, Int.toNat_natCast] <;> omega) | fail) only [Go.Rx.vi, Go.Rx.vb, Go.Rx.vstr, rxc, rxo, Nat.reduceLeDiff, List.getElem?_cons_zero, List.getElem?_cons_succ, List.length_cons, List.length_nil, List.set_cons_zero, List.set_cons_succ, ↓reduceIte, Bool.not_true, Bool.not_false, true_and, and_true, not_true_eq_false, not_false_eq_true, decide_true, decide_false, Nat.reduceEqDiff, Nat.reduceAdd, Nat.reduceMul, Nat.reducePow, Int.reduceToNat, Int.reducePow, Nat.zero_add, Nat.mul_one, Int.toNat_natCast, R46_23, e0, e4, e5, e6, R46_24, lenm_map hmp, List.length_map]
      refine WCond_dec (fun hcc => ?_) (fun hcc => ?_)
      · rcases hcl with h0 | ⟨hcl1, hcl2⟩
        · omega
        · obtain ⟨q1, q2⟩ := classes (fun s hs => ⟨(hof s hs).1, hcl1 s hs⟩) (fun y hy => by obtain ⟨s, a, b⟩ := hcl2 y hy; exact ⟨s, a, b⟩) hnx hsur (fun s t hs ht he => (hE s t hs ht).2 (((hE' s t hs ht).1 he).2.1))
          have q2 := q2 (by omega)
          have hst : ∀ s t, s < k → t < k → Eqv T Rl nb r s t → Eqv T Rl nb (r + 1) s t := fun s t hs ht he => (hE' s t hs ht).1 (q2 s t hs ht ((hE s t hs ht).2 he))
          simp (maxSteps := 2000000) (disch := first | omega | assumption | (simp only [oneC_int, oneC_bool, oneC_str, oneC_ptr, oneC_sl, oneC_map]; done) | (simp only [List.length_cons, List.length_nil, List.length_set, List.length_map, List.length_replicate, List.length_append, List.length_take, List.length_drop, Int.toNat_natCast] <;> omega) | fail) only [Go.Rx.vi, Go.Rx.vb, Go.Rx.vstr, rxc, rxo, Nat.reduceLeDiff, List.getElem?_cons_zero, List.getElem?_cons_succ, List.length_cons, List.length_nil, List.set_cons_zero, List.set_cons_succ, ↓reduceIte, Bool.not_true, Bool.not_false, true_and, and_true, not_true_eq_false, not_false_eq_true, decide_true, decide_false, Nat.reduceEqDiff, Nat.reduceAdd, Nat.reduceMul, Nat.reducePow, Int.reduceToNat, Int.reducePow, Nat.zero_add, Nat.mul_one, Int.toNat_natCast, R46_25]
          refine hk vx h' nx ox gp (by omega) hnl (fun s hs => ⟨(hnx s hs).1, by have := (hnx s hs).2; omega⟩) fun s t hs ht => ?_
          rw [hE' s t hs ht]
          constructor
          · intro he q
            by_cases hq : q ≤ r + 1
            · exact Eqv.le hq he
            · have := Eqv.stable hto hst (q - r) s t hs ht he.2.1
              rwa [show r + (q - r) = q by omega] at this
          · exact fun he => he (r + 1)
      · simp (maxSteps := 2000000) (disch := first | omega | assumption | (simp only [oneC_int, oneC_bool, oneC_str, oneC_ptr, oneC_sl, oneC_map]; done) | (simp only [List.length_cons, List.length_nil, List.length_set, List.length_map, List.length_replicate, List.length_append, List.length_take, List.length_drop, Int.toNat_natCast] <;> omega) | fail) only [Go.Rx.vi, Go.Rx.vb, Go.Rx.vstr, rxc, rxo, Nat.reduceLeDiff, List.getElem?_cons_zero, List.getElem?_cons_succ, List.length_cons, List.length_nil, List.set_cons_zero, List.set_cons_succ, ↓reduceIte, Bool.not_true, Bool.not_false, true_and, and_true, not_true_eq_false, not_false_eq_true, decide_true, decide_false, Nat.reduceEqDiff, Nat.reduceAdd, Nat.reduceMul, Nat.reducePow, Int.reduceToNat, Int.reducePow, Nat.zero_add, Nat.mul_one, Int.toNat_natCast, R46_26, lenm_map hmp, List.length_map, e5]
        have hlt : c < ps.length := by
          rcases hcl with h0 | ⟨hcl1, hcl2⟩
          · omega
          · have := (classes (fun s hs => ⟨(hof s hs).1, hcl1 s hs⟩) (fun y hy => by obtain ⟨s, a, b⟩ := hcl2 y hy; exact ⟨s, a, b⟩) hnx hsur (fun s t hs ht he => (hE s t hs ht).2 (((hE' s t hs ht).1 he).2.1))).1
            omega
        exact ⟨_, by omega, ps.length, r + 1, vx, nx, rfl, by omega, e0, rfl, rfl, ox, gp, by omega, hnl, fun s hs => ⟨(hnx s hs).1, by have := (hnx s hs).2; omega⟩, hE', .inr ⟨fun s hs => (hnx s hs).2, hsur⟩⟩
  · rintro e h' hf
    exact hf.elim
end Go.Rx

namespace Go.Rx
variable {M : Mach}
set_option maxRecDepth 4000
set_option linter.unusedSimpArgs false
set_option linter.unusedVariables false

structure OutV (h : Heap) (n0 tb : Nat) (vy vn vr : Value) (us : List Value) (bs : List Int) (pl : List Int) (T : List (List Int)) (Rl : List Int) (s : Int) : Prop where
  tab : h.at tb = some (.cells (dfaC s pl vn vr) 34 true)
  lt : tb < h.next
  low : 1 ≤ tb
  pl : pl.length = 256
  oy : OwnV h 5 vy (bs.map (.int .u8))
  on : OwnV h 32 vn us
  or_ : OwnV h 3 vr (Rl.map (.int .i64))
  len : us.length = T.length
  row : ∀ i : Nat, i < T.length → OwnV h 3 (us.getD i undef) ((T.getD i []).map (.int .i64))
  sep : Sep (pB tb :: vy :: vn :: vr :: us)
  fresh : ∀ i : Nat, i < us.length + 4 → bno ((pB tb :: vy :: vn :: vr :: us).getD i undef) = 0 ∨ n0 ≤ bno ((pB tb :: vy :: vn :: vr :: us).getD i undef)

section
variable {h h' : Heap} {n0 tb : Nat} {vy vn vr : Value} {us : List Value} {bs pl Rl : List Int} {T : List (List Int)} {s : Int}
theorem OutV.lows (b : OutV h n0 tb vy vn vr us bs pl T Rl s) : ∀ j : Nat, j < (pB tb :: vy :: vn :: vr :: us).length → bno ((pB tb :: vy :: vn :: vr :: us).getD j undef) < h.next
  | 0, _ => b.lt
  | 1, _ => b.oy.1
  | 2, _ => b.on.1
  | 3, _ => b.or_.1
  | j + 4, hj => (b.row j (by rw [← b.len]; simpa using hj)).1
/-- Something else has changed. -/
theorem OutV.other (b : OutV h n0 tb vy vn vr us bs pl T Rl s) {w : Nat} (c : Chg w h h') (hw : ∀ i : Nat, i < us.length + 4 → bno ((pB tb :: vy :: vn :: vr :: us).getD i undef) = 0 ∨ bno ((pB tb :: vy :: vn :: vr :: us).getD i undef) ≠ w) : OutV h' n0 tb vy vn vr us bs pl T Rl s := by
  have h0 : tb ≠ w := by
    have := hw 0 (by omega)
    have e : bno (pB tb) = tb := rfl
    simp only [List.getD_cons_zero, e] at this
    have := b.low; omega
  refine ⟨by rw [c.at_ tb b.lt h0]; exact b.tab, Nat.lt_of_lt_of_le b.lt c.next, b.low, b.pl, b.oy.chg c ?_, b.on.chg c ?_, b.or_.chg c ?_, b.len, fun i hi => (b.row i hi).chg c ?_, b.sep, b.fresh⟩
  · exact (hw 1 (by omega)).symm
  · exact (hw 2 (by omega)).symm
  · exact (hw 3 (by omega)).symm
  · exact (hw (i + 4) (by rw [b.len]; omega)).symm
theorem OutV.gp (b : OutV h n0 tb vy vn vr us bs pl T Rl s) (g : GrowP h h') : OutV h' n0 tb vy vn vr us bs pl T Rl s := b.other g.c (fun i _ => by omega)
/-- A new block is none of these. -/
theorem OutV.newer (b : OutV h n0 tb vy vn vr us bs pl T Rl s) {w : Nat} (hw : h.next ≤ w) : ∀ i : Nat, i < us.length + 4 → bno ((pB tb :: vy :: vn :: vr :: us).getD i undef) = 0 ∨ bno ((pB tb :: vy :: vn :: vr :: us).getD i undef) ≠ w :=
  fun i hi => by have := b.lows i (by simpa using hi); omega
theorem OutV.ne_tab (b : OutV h n0 tb vy vn vr us bs pl T Rl s) : ∀ i : Nat, i < us.length + 3 → bno ((vy :: vn :: vr :: us).getD i undef) ≠ tb ∨ bno ((vy :: vn :: vr :: us).getD i undef) = 0 := fun i hi => by
  by_cases e : bno ((vy :: vn :: vr :: us).getD i undef) = tb
  · exact .inr (b.sep (i + 1) 0 (by simp; omega) (by simp) (by omega) e)
  · exact .inl e
/-- The table's block itself changes: next, rule or place. -/
theorem OutV.tabbed (b : OutV h n0 tb vy vn vr us bs pl T Rl s) {pl' : List Int} (hp : pl'.length = 256) (c : Chg tb h h') (ht : h'.at tb = some (.cells (dfaC s pl' vn vr) 34 true)) : OutV h' n0 tb vy vn vr us bs pl' T Rl s := by
  refine ⟨ht, Nat.lt_of_lt_of_le b.lt c.next, b.low, hp, b.oy.chg c (b.ne_tab 0 (by omega)), b.on.chg c (b.ne_tab 1 (by omega)), b.or_.chg c (b.ne_tab 2 (by omega)), b.len, fun i hi => (b.row i hi).chg c (b.ne_tab (i + 3) (by rw [b.len]; omega)), b.sep, b.fresh⟩

/-- A row more: it is put behind next, and next is noted down. -/
theorem OutV.addRow (b : OutV h n0 tb vy vn vr us bs pl T Rl s) (hn : n0 ≤ h.next) {u : Value} {r : List Int} (ou : OwnV h 3 u (r.map (.int .i64))) (hu : ∀ i : Nat, i < us.length + 4 → bno ((pB tb :: vy :: vn :: vr :: us).getD i undef) = 0 ∨ bno ((pB tb :: vy :: vn :: vr :: us).getD i undef) ≠ bno u) (hu0 : n0 ≤ bno u)
    {h2 : Heap} {vn' : Value} (o : OwnV h' 32 vn' (us ++ [u])) (c : Chg (bno vn) h h') (f : bno vn' = bno vn ∨ h.next ≤ bno vn') (c2 : Chg tb h' h2) (ht : h2.at tb = some (.cells (dfaC s pl vn' vr) 34 true)) :
    OutV h2 n0 tb vy vn' vr (us ++ [u]) bs pl (T ++ [r]) Rl s := by
  have hl := b.lows
  have sp := b.sep
  have hun : bno u < h.next := ou.1
  have z : ∀ i : Nat, i < us.length + 4 → i ≠ 2 → bno ((pB tb :: vy :: vn :: vr :: us).getD i undef) ≠ bno vn ∨ bno ((pB tb :: vy :: vn :: vr :: us).getD i undef) = 0 := fun i hi h2 => sep_ne sp (by simpa using hi) (by simp) (j := 2) h2
  have s1 : Sep (pB tb :: vy :: vn' :: vr :: us) := by
    have := sp.upd (i := 2) (v' := vn') (n := h.next) (by simp) hl f
    simpa using this
  have hu' : ∀ i : Nat, i < (pB tb :: vy :: vn' :: vr :: us).length → bno ((pB tb :: vy :: vn' :: vr :: us).getD i undef) = 0 ∨ bno ((pB tb :: vy :: vn' :: vr :: us).getD i undef) ≠ bno u := fun i hi => by
    have hi : i < us.length + 4 := by simpa using hi
    have q := hu i hi
    match i with
    | 0 => exact q
    | 1 => exact q
    | 2 =>
      have q : bno vn = 0 ∨ bno vn ≠ bno u := q
      show bno vn' = 0 ∨ bno vn' ≠ bno u
      omega
    | 3 => exact q
    | i + 4 => exact q
  have s2 : Sep (pB tb :: vy :: vn' :: vr :: (us ++ [u])) := by
    have := sep_snoc s1 hu'
    simpa using this
  have hvn2 : bno vn' ≠ tb ∨ bno vn' = 0 := sep_ne s2 (i := 2) (j := 0) (by simp) (by simp) (by decide)
  have hut : bno u ≠ tb ∨ bno u = 0 := by
    have := hu 0 (by omega)
    have e : bno (pB tb) = tb := rfl
    simp only [List.getD_cons_zero, e] at this
    have := b.low; omega
  refine ⟨ht, ?_, b.low, b.pl, ?_, o.chg c2 hvn2, ?_, by simp [b.len], fun i hi => ?_, s2, fun i hi => ?_⟩
  · have := b.lt; have := c.next; have := c2.next; omega
  · exact (b.oy.chg c (z 1 (by omega) (by decide))).chg c2 (b.ne_tab 0 (by omega))
  · exact (b.or_.chg c (z 3 (by omega) (by decide))).chg c2 (b.ne_tab 2 (by omega))
  · rw [List.length_append, List.length_singleton] at hi
    rw [getD_app, getD_app]
    by_cases hi2 : i < T.length
    · rw [if_pos (by rw [b.len]; exact hi2), if_pos hi2]
      exact ((b.row i hi2).chg c (z (i + 4) (by rw [b.len]; omega) (by omega))).chg c2 (b.ne_tab (i + 3) (by rw [b.len]; omega))
    · rw [if_neg (by rw [b.len]; exact hi2), if_neg hi2, if_pos (by rw [b.len]; omega), if_pos (by omega)]
      refine (ou.chg c ?_).chg c2 hut
      have := hu 2 (by omega)
      simp only [List.getD_cons_succ, List.getD_cons_zero] at this
      omega
  · rw [List.length_append, List.length_singleton] at hi
    have fr := b.fresh
    match i, hi with
    | 0, _ => exact fr 0 (by omega)
    | 1, _ => exact fr 1 (by omega)
    | 2, _ =>
      have q : bno vn = 0 ∨ n0 ≤ bno vn := fr 2 (by omega)
      show bno vn' = 0 ∨ n0 ≤ bno vn'
      omega
    | 3, _ => exact fr 3 (by omega)
    | i + 4, hi =>
      show bno ((us ++ [u]).getD i undef) = 0 ∨ n0 ≤ bno ((us ++ [u]).getD i undef)
      rw [getD_app]
      by_cases hi2 : i < us.length
      · rw [if_pos hi2]; exact fr (i + 4) (by omega)
      · rw [if_neg hi2, if_pos (by omega)]; exact .inr hu0
/-- A rule more. -/
theorem OutV.addRule (b : OutV h n0 tb vy vn vr us bs pl T Rl s) (hn : n0 ≤ h.next) {h2 : Heap} {vr' : Value} {Rl' : List Int} (o : OwnV h' 3 vr' (Rl'.map (.int .i64))) (c : Chg (bno vr) h h') (f : bno vr' = bno vr ∨ h.next ≤ bno vr') (c2 : Chg tb h' h2) (ht : h2.at tb = some (.cells (dfaC s pl vn vr') 34 true)) :
    OutV h2 n0 tb vy vn vr' us bs pl T Rl' s := by
  have hl := b.lows
  have sp := b.sep
  have z : ∀ i : Nat, i < us.length + 4 → i ≠ 3 → bno ((pB tb :: vy :: vn :: vr :: us).getD i undef) ≠ bno vr ∨ bno ((pB tb :: vy :: vn :: vr :: us).getD i undef) = 0 := fun i hi h2 => sep_ne sp (by simpa using hi) (by simp) (j := 3) h2
  have s1 : Sep (pB tb :: vy :: vn :: vr' :: us) := by
    have := sp.upd (i := 3) (v' := vr') (n := h.next) (by simp) hl f
    simpa using this
  have hvr2 : bno vr' ≠ tb ∨ bno vr' = 0 := sep_ne s1 (i := 3) (j := 0) (by simp) (by simp) (by decide)
  refine ⟨ht, ?_, b.low, b.pl, ?_, ?_, o.chg c2 hvr2, b.len, fun i hi => ?_, s1, fun i hi => ?_⟩
  · have := b.lt; have := c.next; have := c2.next; omega
  · exact (b.oy.chg c (z 1 (by omega) (by decide))).chg c2 (b.ne_tab 0 (by omega))
  · exact (b.on.chg c (z 2 (by omega) (by decide))).chg c2 (b.ne_tab 1 (by omega))
  · exact ((b.row i hi).chg c (z (i + 4) (by rw [b.len]; omega) (by omega))).chg c2 (b.ne_tab (i + 3) (by rw [b.len]; omega))
  · have fr := b.fresh
    match i, hi with
    | 0, _ => exact fr 0 (by omega)
    | 1, _ => exact fr 1 (by omega)
    | 2, _ => exact fr 2 (by omega)
    | 3, _ =>
      have q : bno vr = 0 ∨ n0 ≤ bno vr := fr 3 (by omega)
      show bno vr' = 0 ∨ n0 ≤ bno vr'
      omega
    | i + 4, hi => exact fr (i + 4) hi
/-- A row is written. -/
theorem OutV.setRow (b : OutV h n0 tb vy vn vr us bs pl T Rl s) {i : Nat} (hi : i < T.length) {r : List Int} (o : OwnV h' 3 (us.getD i undef) (r.map (.int .i64))) (c : Chg (bno (us.getD i undef)) h h') : OutV h' n0 tb vy vn vr us bs pl (T.set i r) Rl s := by
  have sp := b.sep
  have z : ∀ j : Nat, j < us.length + 4 → j ≠ i + 4 → bno ((pB tb :: vy :: vn :: vr :: us).getD j undef) ≠ bno (us.getD i undef) ∨ bno ((pB tb :: vy :: vn :: vr :: us).getD j undef) = 0 := fun j hj h2 => sep_ne sp (by simpa using hj) (by simp [b.len, hi]) (j := i + 4) h2
  have ht : tb ≠ bno (us.getD i undef) := by
    have := z 0 (by omega) (by omega)
    have e : bno (pB tb) = tb := rfl
    simp only [List.getD_cons_zero, e] at this
    have := b.low; omega
  refine ⟨by rw [c.at_ tb b.lt ht]; exact b.tab, Nat.lt_of_lt_of_le b.lt c.next, b.low, b.pl, b.oy.chg c (z 1 (by omega) (by omega)), b.on.chg c (z 2 (by omega) (by omega)), b.or_.chg c (z 3 (by omega) (by omega)), by simp [b.len], fun j hj => ?_, sp, b.fresh⟩
  rw [List.length_set] at hj
  rw [getD_set hi]
  by_cases e : i = j
  · subst e; rw [if_pos rfl]; exact o
  · rw [if_neg e]
    exact (b.row j hj).chg c (z (j + 4) (by rw [b.len]; omega) (by omega))
end

theorem dfaC_set257 {vn vr x : Value} {pl : List Int} {s : Int} (hp : pl.length = 256) : (dfaC s pl vn vr).set 257 x = dfaC s pl x vr := by
  show .int .i64 s :: (pl.map (Value.int .u8) ++ [vn, vr]).set 256 x = _
  rw [List.set_append_right _ _ (by simp [hp])]; simp [hp, dfaC]
theorem dfaC_set258 {vn vr x : Value} {pl : List Int} {s : Int} (hp : pl.length = 256) : (dfaC s pl vn vr).set 258 x = dfaC s pl vn x := by
  show .int .i64 s :: (pl.map (Value.int .u8) ++ [vn, vr]).set 257 x = _
  rw [List.set_append_right _ _ (by simp [hp])]; simp [hp, dfaC]
theorem dfaC_setp {vn vr : Value} {pl : List Int} {s : Int} (hp : pl.length = 256) {i : Nat} (hi : i < 256) {y : Int} : (dfaC s pl vn vr).set (1 + i) (.int .u8 y) = dfaC s (pl.set i y) vn vr := by
  rw [Nat.add_comm]
  show .int .i64 s :: (pl.map (Value.int .u8) ++ [vn, vr]).set i (.int .u8 y) = _
  rw [List.set_append_left _ _ (by simp [hp, hi]), ← List.map_set]; rfl
theorem dfa0 : rl [(1, Value.int .i64 0), (256, Value.int .u8 0), (2, Value.slice none 0 0)] = dfaC 0 (List.replicate 256 0) (.slice none 0 0) (.slice none 0 0) := by
  simp [rl, rep_eq, dfaC]

/-! ### Columns -/
def colF (rows : List (List Int)) (i : Nat) : List Int := rows.map fun r => r.getD i 0
def isFst (rows : List (List Int)) (i : Nat) : Bool := (List.range i).all fun a => decide (colF rows a ≠ colF rows i)
def firsts (rows : List (List Int)) (n : Nat) : List Nat := (List.range n).filter (isFst rows)
theorem isFst_iff {rows : List (List Int)} {i : Nat} : isFst rows i = true ↔ ∀ a, a < i → colF rows a ≠ colF rows i := by
  simp [isFst, List.all_eq_true]
theorem firsts_succ (rows : List (List Int)) (n : Nat) : firsts rows (n + 1) = if isFst rows n = true then firsts rows n ++ [n] else firsts rows n := by
  unfold firsts
  rw [List.range_succ, List.filter_append]
  split
  · rename_i h; simp [h]
  · rename_i h; simp [h]
theorem firsts_le (rows : List (List Int)) (n : Nat) : (firsts rows n).length ≤ n := by
  unfold firsts
  exact Nat.le_trans (List.length_filter_le _ _) (by simp)
theorem firsts_lt {rows : List (List Int)} {n i : Nat} (h : i ∈ firsts rows n) : i < n ∧ isFst rows i = true := by
  unfold firsts at h
  have := List.mem_filter.1 h
  exact ⟨List.mem_range.1 this.1, this.2⟩

/-! ### The numbering of blocks -/
structure BSt where
  num : List Int
  ord : List Int
/-- One way is looked at. -/
def bst1 (of : List Int) (st : BSt) (x : Int) : BSt × Int :=
  if x < 0 then (st, -1)
  else if st.num.getD (of.getD x.toNat 0).toNat 0 = 0 then (⟨st.num.set (of.getD x.toNat 0).toNat (st.ord.length + 1), st.ord ++ [x]⟩, st.ord.length)
  else (st, st.num.getD (of.getD x.toNat 0).toNat 0 - 1)
def bstR (of : List Int) : List Int → BSt → BSt × List Int
  | [], st => (st, [])
  | x :: l, st => ((bstR of l (bst1 of st x).1).1, (bst1 of st x).2 :: (bstR of l (bst1 of st x).1).2)
def bstF (T : List (List Int)) (of : List Int) : Nat → Nat → BSt → List (List Int) → BSt × List (List Int)
  | 0, _, st, rows => (st, rows)
  | f + 1, n, st, rows => if n < st.ord.length then bstF T of f (n + 1) (bstR of (T.getD (st.ord.getD n 0).toNat []) st).1 (rows ++ [(bstR of (T.getD (st.ord.getD n 0).toNat []) st).2]) else (st, rows)
theorem bstF_end {T : List (List Int)} {of : List Int} {f n : Nat} {st : BSt} {rows : List (List Int)} (h : ¬ n < st.ord.length) : bstF T of f n st rows = (st, rows) := by
  cases f with
  | zero => rfl
  | succ f => simp only [bstF, if_neg h]
end Go.Rx
