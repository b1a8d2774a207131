/- Every operation of the abstract machine is the real one's: all of them together. -/
import Derived.Test.YtabhplelhjcdiaaRxIns
/- Every operation of the abstract machine is the real one's: all of them together. -/
set_option linter.unusedVariables false
set_option linter.unusedSimpArgs false
namespace Go.Rx

variable {D : List Deferred}
variable {P : Program} {ρ : Ren} {H H' : Heap} {w : World} {e : Env} {a : Act} {nt : Nat} {v : Value}

theorem map_some' {α β : Type} {f : α → β} {x : Option α} {y : β} (h : x.map f = some y) : ∃ z, x = some z ∧ f z = y := by
  cases x with
  | none => cases h
  | some z => cases h; exact ⟨z, rfl, rfl⟩

theorem ins_both (hdep : 50 ≤ P.depth) {ev : Ev} (hF : FSound P ev.f) (o : Oper) {ins : Ins} (hi : insOf P o.op = some ins)
    (ha : AR D ρ nt e a) (hs : Sim P ρ H w) (hr : runI ins ev e H = some (v, H')) : Both ins.sort P ρ H w H' v ((execOp a.eval o).run P w) := by
  cases ho : o.op with
  | move x =>
    rw [ho] at hi
    obtain ⟨y, hy, rfl⟩ := map_some' hi
    cases hr
    exact (s_mov o ha hs (.inl ho) hy).both
  | assign x =>
    rw [ho] at hi
    obtain ⟨y, hy, rfl⟩ := map_some' hi
    cases hr
    exact (s_mov o ha hs (.inr ho) hy).both
  | pick c x y =>
    rw [ho] at hi
    simp only [insOf] at hi
    split at hi
    · rename_i c' x' y' h1 h2 h3; cases hi; exact (s_pick o ha hs ho h1 h2 h3 hr).both
    · cases hi
  | alloc t =>
    rw [ho] at hi
    obtain ⟨zs, hz, rfl⟩ := map_some' hi
    exact (s_alloc o hs ho hz hr).both (by simp [Ins.sort])
  | box t x =>
    rw [ho] at hi
    simp only [insOf] at hi
    split at hi
    · rename_i n x' h1 h2; cases hi; exact (s_box o ha hs ho h2 hr).both (by simp [Ins.sort])
    · cases hi
  | build t ps =>
    rw [ho] at hi
    simp only [insOf] at hi
    split at hi
    · rename_i zs fs hz hu
      split at hi
      · rename_i pl hpl
        obtain ⟨l, hl, rfl⟩ := map_some' hi
        exact (s_builds o ha hs ho hz hu hpl hl hr).both
      · cases hi
    · rename_i zs n el hz hu
      split at hi
      · rename_i s hsz
        obtain ⟨l, hl, rfl⟩ := map_some' hi
        exact (s_builda o ha hs ho hz hu hsz hl hr).both
      · cases hi
    · cases hi
  | buildSlice t len ps =>
    rw [ho] at hi
    simp only [insOf] at hi
    split at hi
    · rename_i el hu
      split at hi
      · rename_i s zs hsz hz
        split at hi
        · cases hi
        · rename_i hsm
          split at hi
          · rename_i hl
            obtain ⟨l, hl', rfl⟩ := map_some' hi
            exact (s_bslice o ha hs ho hz hu hsz (by simpa using hl) hsm hl' hr).both (by simp [Ins.sort])
          · cases hi
      · cases hi
    · cases hi
  | load t x =>
    rw [ho] at hi
    simp only [insOf] at hi
    split at hi
    · rename_i x' n h1 h2 h3; cases hi; exact (s_loadn o ha hs ho h1 h2 h3 hr).both
    · rename_i x' n h1 h2 h3; cases hi; exact (s_load o ha hs ho h1 h2 hr).both
    · cases hi
  | store t x y =>
    rw [ho] at hi
    simp only [insOf] at hi
    split at hi
    · rename_i n x' y' h1 h2 h3; cases hi; exact (s_store o ha hs ho h2 h3 h1 hr).both (by simp [Ins.sort])
    · cases hi
  | nilCheck x =>
    rw [ho] at hi
    obtain ⟨y, hy, rfl⟩ := map_some' hi
    exact (s_nilchk o ha hs ho hy hr).both
  | binOp op t x y u =>
    rw [ho] at hi
    simp only [insOf] at hi
    split at hi
    · rename_i x' y' h1 h2; exact (bin_sound hdep ho h1 h2 hi ha hs hr).both
    · cases hi
  | unOp op t x =>
    rw [ho] at hi
    obtain ⟨y, hy, rfl⟩ := map_some' hi
    exact (s_un o ha hs ho hy hr).both
  | convert s d x =>
    rw [ho] at hi
    simp only [insOf] at hi
    split at hi
    · rename_i x' h1; exact (conv_sound ho h1 hi ha hs hr).both
    · cases hi
  | slice t x lo hi' mx =>
    rw [ho] at hi
    simp only [insOf] at hi
    split at hi
    · rename_i x' l' h' m' h1 h2 h3 h4; exact (slice_sound ho h1 h2 h3 h4 hi ha hs hr).both
    · cases hi
  | fieldAddr t x f =>
    rw [ho] at hi
    simp only [insOf] at hi
    split at hi
    · rename_i x' fs h1 h2
      split at hi
      · rename_i fd hf
        split at hi
        · rename_i n hn; cases hi; exact (s_fadr o ha hs ho h1 h2 hf hn hr).both
        · cases hi
      · cases hi
    · cases hi
  | field t x f =>
    rw [ho] at hi
    simp only [insOf] at hi
    split at hi
    · rename_i x' fs h1 h2
      split at hi
      · rename_i fd hf
        split at hi
        · rename_i n hb hn; cases hi; exact (s_fld (b := true) o ha hs ho h1 h2 hf hb hn hr).both
        · rename_i n hb hn; cases hi; exact (s_fld (b := false) o ha hs ho h1 h2 hf hb hn hr).both
        · cases hi
      · cases hi
    · cases hi
  | indexAddr t x i =>
    rw [ho] at hi
    simp only [insOf] at hi
    split at hi
    · rename_i x' i' el h1 h2 h3
      obtain ⟨s, hs1, rfl⟩ := map_some' hi
      exact (s_ixs o ha hs ho h1 h2 h3 hs1 hr).both
    · rename_i x' i' n el h1 h2 h3
      obtain ⟨s, hs1, rfl⟩ := map_some' hi
      exact (s_ixa o ha hs ho h1 h2 h3 hs1 hr).both
    · cases hi
  | index t x i =>
    rw [ho] at hi
    simp only [insOf] at hi
    split at hi
    · rename_i x' i' h1 h2 h3; cases hi; exact (s_ixt o ha hs ho h1 h2 h3 hr).both
    · rename_i x' i' n el h1 h2 h3
      split at hi
      · rename_i b s h4 h5; cases hi; exact (s_ixg o ha hs ho h1 h2 h3 h5 h4 hr).both
      · cases hi
    · cases hi
  | makeSlice t l c =>
    rw [ho] at hi
    simp only [insOf] at hi
    split at hi
    · rename_i el l' c' h1 h2 h3
      split at hi
      · rename_i s zs h4 h5
        split at hi
        · rename_i h6; cases hi; exact (s_mks o ha hs ho h2 h3 h5 h1 h4 (by simpa using h6) hr).both (by simp [Ins.sort])
        · cases hi
      · cases hi
    · cases hi
  | makeMap t r =>
    rw [ho] at hi
    cases r with
    | some r => cases hi
    | none =>
      simp only [insOf] at hi
      split at hi
      · cases hi; cases hr; exact (s_mkm o hs ho).both (by simp [Ins.sort])
      · cases hi
  | lookup t m k ok =>
    rw [ho] at hi
    simp only [insOf] at hi
    split at hi
    · rename_i kt et m' k' h1 h2 h3
      split at hi
      · rename_i ag ks z h4 h5; cases hi; exact (s_look o ha hs ho h2 h3 h1 h4 h5 hr).both
      · cases hi
    · cases hi
  | mapUpdate t m k x =>
    rw [ho] at hi
    simp only [insOf] at hi
    split at hi
    · rename_i kt et m' k' x' h1 h2 h3 h4
      obtain ⟨p, hp, rfl⟩ := map_some' hi
      exact (s_mset o ha hs ho h2 h3 h4 h1 hp hr).both (by simp [Ins.sort])
    · cases hi
  | mapEntry t m k =>
    rw [ho] at hi
    simp only [insOf] at hi
    split at hi
    · rename_i kt et m' k' h1 h2 h3
      split at hi
      · rename_i ag ks z h4 h5; cases hi; exact (s_ment o ha hs ho h2 h3 h1 h4 h5 hr).both (by simp [Ins.sort])
      · cases hi
    · cases hi
  | entryStore t m s x =>
    rw [ho] at hi
    simp only [insOf] at hi
    split at hi
    · rename_i m' s' x' h1 h2 h3; cases hi; exact (s_mst o ha hs ho h1 h2 h3 hr).both (by simp [Ins.sort])
    · cases hi
  | extract x i =>
    rw [ho] at hi
    obtain ⟨y, hy, rfl⟩ := map_some' hi
    exact (s_ext o ha hs ho hy hr).both
  | makeFunc fn xs ys =>
    rw [ho] at hi
    simp only [insOf] at hi
    split at hi
    · rename_i xs' ys' h1 h2; cases hi; cases hr; exact (s_mkf o ha hs ho h1 h2).both
    · cases hi
  | makeInterface t x =>
    rw [ho] at hi
    simp only [insOf] at hi
    split at hi
    · cases hi
    · rename_i d x' hni h1 h2; cases hi; cases hr; exact (s_mki o ha hs ho h2 h1 (fun ms h => by subst h; exact hni _ rfl)).both
    · cases hi
  | panic x =>
    rw [ho] at hi
    cases hi
    cases hr
  | call c =>
    rw [ho] at hi
    exact callI_sound hdep hF ho hi ha hs hr
  | _ => rw [ho] at hi; cases hi

theorem ins_sound (hdep : 50 ≤ P.depth) {ev : Ev} (hF : FSound P ev.f) (o : Oper) {ins : Ins} (hi : insOf P o.op = some ins)
    (ha : AR D ρ nt e a) (hs : Sim P ρ H w) (hr : runI ins ev e H = some (v, H')) : Core P ρ H w H' v ((execOp a.eval o).run P w) := (ins_both hdep hF o hi ha hs hr).2

/-! ### Slots -/
theorem AR.put (ha : AR D ρ nt e a) {v v' : Value} (hv : VR ρ v v') {d : Option Tmp} (hd : ∀ t, d = some t → t < nt) : AR D ρ nt (putD e d v) (a.put d v') := by
  cases d with
  | none => exact ha
  | some d =>
    have hlt : d < a.tmps.size := Nat.lt_of_lt_of_le (hd d rfl) ha.size
    refine ⟨by simpa [Act.put] using ha.size, ha.defers, fun t => ?_⟩
    show VR ρ ((e.s d v).g t) _
    rw [Env.g_s]
    by_cases h : d = t
    · subst h
      rw [if_pos rfl]
      simp [Act.put, hlt, hv]
    · rw [if_neg h]
      have := ha.slot t
      simp only [Act.put]
      rw [Array.getD_eq_getD_getElem?, Array.getElem?_setIfInBounds_ne h, ← Array.getD_eq_getD_getElem?]
      exact this

theorem giOf_some {ops : Array Oper} {o : Oper} {g : GI} (h : giOf P nt ops o = some g) : insOf P o.op = some g.ins ∧ g.dst = o.dst ∧ (∀ t, o.dst = some t → t < nt) ∧
    ((o.guard = none ∧ g.g = none) ∨ (∃ j want dj, o.guard = some (j, want) ∧ (ops[j]?).bind (·.dst) = some dj ∧ g.g = some (dj, want))) := by
  unfold giOf at h
  split at h
  · cases h
  · rename_i i hi
    split at h
    · rename_i d hd
      split at h
      · rename_i hlt
        split at h
        · rename_i hg
          cases h
          exact ⟨hi, hd.symm, fun t ht => by rw [hd] at ht; cases ht; exact hlt, .inl ⟨hg, rfl⟩⟩
        · rename_i j want hg
          split at h
          · rename_i dj hdj
            cases h
            exact ⟨hi, hd.symm, fun t ht => by rw [hd] at ht; cases ht; exact hlt, .inr ⟨j, want, dj, hg, hdj, rfl⟩⟩
          · cases h
      · cases h
    · rename_i hd
      split at h
      · rename_i hg
        cases h
        exact ⟨hi, hd.symm, fun t ht => (by rw [hd] at ht; cases ht), .inl ⟨hg, rfl⟩⟩
      · rename_i j want hg
        split at h
        · rename_i dj hdj
          cases h
          exact ⟨hi, hd.symm, fun t ht => (by rw [hd] at ht; cases ht), .inr ⟨j, want, dj, hg, hdj, rfl⟩⟩
        · cases h

/-- Both machines want the same operations. -/
theorem wanted_eq (ha : AR D ρ nt e a) {ops : Array Oper} {o : Oper} {g : GI} (h : giOf P nt ops o = some g) : Region.wanted o (yielded ops a.tmps) = onG g.g e := by
  obtain ⟨_, _, _, hg⟩ := giOf_some h
  rcases hg with ⟨h1, h2⟩ | ⟨j, want, dj, h1, h2, h3⟩
  · rw [h2]; simp [Region.wanted, h1, onG]
  · rw [h3]
    simp only [Region.wanted, h1]
    have hs := ha.slot dj
    show (yielded ops a.tmps j == some want) = isB (e.g dj) want
    unfold yielded
    rw [h2]
    simp only [Option.bind_some]
    rw [Array.getD_eq_getD_getElem?] at hs
    generalize e.g dj = u at hs
    cases hq : a.tmps[dj]? with
    | none =>
      rw [hq] at hs
      have hs' : VR ρ u undef := hs
      unfold undef at hs'
      cases hs'
      rfl
    | some q =>
      rw [hq] at hs
      simp only [Option.getD_some] at hs
      cases hs with
      | bool b => simp [isB]
      | _ => rfl

end Go.Rx
