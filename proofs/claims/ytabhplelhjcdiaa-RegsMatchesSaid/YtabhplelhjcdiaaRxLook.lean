/- What the abstract machine's operations look at. -/
import Derived.Test.YtabhplelhjcdiaaRxCode
/- What the abstract machine's operations look at. -/
set_option linter.unusedVariables false
set_option linter.unusedSimpArgs false
namespace Go.Rx

/-! ### Slots -/
theorem Opd.congr {x : Opd} {E E' : Env} (h : ∀ t ∈ x.uses, E.g t = E'.g t) : x.v E = x.v E' := by
  cases x with
  | t n => exact h n (by simp [Opd.uses])
  | k v => rfl
theorem vO_congr {x : Option Opd} {E E' : Env} (h : ∀ t ∈ usesO x, E.g t = E'.g t) : vO E x = vO E' x := by
  cases x with
  | none => rfl
  | some x => show some (x.v E) = some (x.v E'); rw [Opd.congr h]
theorem vL_congr : ∀ {l : List Opd} {E E' : Env}, (∀ t ∈ usesL l, E.g t = E'.g t) → vL E l = vL E' l
  | [], _, _, _ => rfl
  | x :: r, E, E', h => by
    rw [vL_cons, vL_cons, Opd.congr (fun t ht => h t (by simp [usesL, ht])), vL_congr (fun t ht => h t (by simp [usesL, ht]))]
theorem fillP_congr : ∀ {ps : List (Nat × Nat × Opd)} {E E' : Env} {zs : List Value}, (∀ t ∈ usesP ps, E.g t = E'.g t) → fillP E zs ps = fillP E' zs ps
  | [], _, _, _, _ => rfl
  | (i, s, x) :: r, E, E', zs, h => by
    simp only [fillP]
    rw [Opd.congr (E := E) (E' := E') (x := x) (fun t ht => h t (by simp [usesP, ht]))]
    split
    · split
      · exact fillP_congr (fun t ht => h t (by simp [usesP, ht]))
      · rfl
    · rfl

theorem runI_congr (ins : Ins) (ev : Ev) {E E' : Env} (h : ∀ t ∈ ins.uses, E.g t = E'.g t) (H : Heap) : runI ins ev E H = runI ins ev E' H := by
  cases ins <;> simp only [Ins.uses, List.mem_append] at h
  case mov x => simp only [runI]; rw [Opd.congr h]
  case pick c a b => simp only [runI]; rw [Opd.congr (x := c) (fun t ht => h t (.inl ht)), Opd.congr (x := a) (fun t ht => h t (.inr (.inl ht))), Opd.congr (x := b) (fun t ht => h t (.inr (.inr ht)))]
  case alloc => rfl
  case box t sz x => simp only [runI]; rw [Opd.congr h]
  case build zs ps => simp only [runI, iBuild]; rw [fillP_congr h]
  case bslice t len zs ps => simp only [runI, iBslice]; rw [fillP_congr h]
  case load x => simp only [runI]; rw [Opd.congr h]
  case loadn n x => simp only [runI]; rw [Opd.congr h]
  case store n a x => simp only [runI]; rw [Opd.congr (x := a) (fun t ht => h t (.inl ht)), Opd.congr (x := x) (fun t ht => h t (.inr ht))]
  case nilchk x => simp only [runI]; rw [Opd.congr h]
  case bin op x y => simp only [runI]; rw [Opd.congr (x := x) (fun t ht => h t (.inl ht)), Opd.congr (x := y) (fun t ht => h t (.inr ht))]
  case eqc k neg x y => simp only [runI]; rw [Opd.congr (x := x) (fun t ht => h t (.inl ht)), Opd.congr (x := y) (fun t ht => h t (.inr ht))]
  case eqa k neg x y => simp only [runI]; rw [Opd.congr (x := x) (fun t ht => h t (.inl ht)), Opd.congr (x := y) (fun t ht => h t (.inr ht))]
  case un op x => simp only [runI]; rw [Opd.congr h]
  case conv k x => simp only [runI]; rw [Opd.congr h]
  case convs x => simp only [runI]; rw [Opd.congr h]
  case b2s x => simp only [runI]; rw [Opd.congr h]
  case slc t sz x lo hi mx =>
    simp only [runI]
    rw [Opd.congr (x := x) (fun t ht => h t (.inl ht)), vO_congr (x := lo) (fun t ht => h t (.inr (.inl ht))), vO_congr (x := hi) (fun t ht => h t (.inr (.inr (.inl ht)))), vO_congr (x := mx) (fun t ht => h t (.inr (.inr (.inr ht))))]
  case sls x lo hi =>
    simp only [runI]
    rw [Opd.congr (x := x) (fun t ht => h t (.inl ht)), vO_congr (x := lo) (fun t ht => h t (.inr (.inl ht))), vO_congr (x := hi) (fun t ht => h t (.inr (.inr ht)))]
  case sla n sz x lo hi mx =>
    simp only [runI]
    rw [Opd.congr (x := x) (fun t ht => h t (.inl ht)), vO_congr (x := lo) (fun t ht => h t (.inr (.inl ht))), vO_congr (x := hi) (fun t ht => h t (.inr (.inr (.inl ht)))), vO_congr (x := mx) (fun t ht => h t (.inr (.inr (.inr ht))))]
  case fadr off x => simp only [runI]; rw [Opd.congr h]
  case ixs sz x i => simp only [runI]; rw [Opd.congr (x := x) (fun t ht => h t (.inl ht)), Opd.congr (x := i) (fun t ht => h t (.inr ht))]
  case ixa n sz x i => simp only [runI]; rw [Opd.congr (x := x) (fun t ht => h t (.inl ht)), Opd.congr (x := i) (fun t ht => h t (.inr ht))]
  case fld off n x => simp only [runI]; rw [Opd.congr h]
  case ixg l sz ag x i => simp only [runI]; rw [Opd.congr (x := x) (fun t ht => h t (.inl ht)), Opd.congr (x := i) (fun t ht => h t (.inr ht))]
  case ixt x i => simp only [runI]; rw [Opd.congr (x := x) (fun t ht => h t (.inl ht)), Opd.congr (x := i) (fun t ht => h t (.inr ht))]
  case lens x => simp only [runI]; rw [Opd.congr h]
  case lent x => simp only [runI]; rw [Opd.congr h]
  case lenm x => simp only [runI]; rw [Opd.congr h]
  case caps x => simp only [runI]; rw [Opd.congr h]
  case minmax mx xs => simp only [runI]; rw [vL_congr h]
  case app t sz bytes x y => simp only [runI]; rw [Opd.congr (x := x) (fun t ht => h t (.inl ht)), Opd.congr (x := y) (fun t ht => h t (.inr ht))]
  case mks t sz bytes zs l c => simp only [runI]; rw [Opd.congr (x := l) (fun t ht => h t (.inl ht)), Opd.congr (x := c) (fun t ht => h t (.inr ht))]
  case mkm => rfl
  case look ag ks z ok m k => simp only [runI]; rw [Opd.congr (x := m) (fun t ht => h t (.inl ht)), Opd.congr (x := k) (fun t ht => h t (.inr ht))]
  case mset ag ks m k v => simp only [runI]; rw [Opd.congr (x := m) (fun t ht => h t (.inl ht)), Opd.congr (x := k) (fun t ht => h t (.inr (.inl ht))), Opd.congr (x := v) (fun t ht => h t (.inr (.inr ht)))]
  case ment ag ks z m k => simp only [runI]; rw [Opd.congr (x := m) (fun t ht => h t (.inl ht)), Opd.congr (x := k) (fun t ht => h t (.inr ht))]
  case mst m s v => simp only [runI]; rw [Opd.congr (x := m) (fun t ht => h t (.inl ht)), Opd.congr (x := s) (fun t ht => h t (.inr (.inl ht))), Opd.congr (x := v) (fun t ht => h t (.inr (.inr ht)))]
  case ext i x => simp only [runI]; rw [Opd.congr h]
  case call f xs => simp only [runI]; rw [vL_congr h]
  case calld x xs => simp only [runI]; rw [Opd.congr (x := x) (fun t ht => h t (.inl ht)), vL_congr (l := xs) (fun t ht => h t (.inr ht))]
  case mkf fn xs ys => simp only [runI]; rw [vL_congr (l := xs) (fun t ht => h t (.inl ht)), vL_congr (l := ys) (fun t ht => h t (.inr ht))]
  case mki t x => simp only [runI]; rw [Opd.congr h]
  case cpy sz x y => simp only [runI]; rw [Opd.congr (x := x) (fun t ht => h t (.inl ht)), Opd.congr (x := y) (fun t ht => h t (.inr ht))]
  case fail => rfl

/-! ### Memory -/
theorem ret_same {v : Value} {o : Option Value} {H H' : Heap} (h : ret H o = some (v, H')) (K : Heap) : H' = H ∧ ret K o = some (v, K) := by
  obtain ⟨h1, rfl⟩ := ret_some h
  subst h1
  exact ⟨rfl, rfl⟩

/-- What looks at no memory. -/
theorem pure_run {ins : Ins} {ev : Ev} {E : Env} {H H' : Heap} {v : Value} (hs : ins.sort = 0) (h : runI ins ev E H = some (v, H')) : H' = H ∧ ∀ K, runI ins ev E K = some (v, K) := by
  cases ins <;> simp [Ins.sort] at hs
  case mov x => cases h; exact ⟨rfl, fun K => rfl⟩
  case pick c a b =>
    simp only [runI] at h ⊢
    generalize c.v E = cv at h
    cases cv <;> cases h
    exact ⟨rfl, fun K => rfl⟩
  case build zs ps =>
    simp only [runI, iBuild] at h ⊢
    split at h
    · rename_i cs hc; cases h; exact ⟨rfl, fun K => rfl⟩
    · cases h
  case nilchk x =>
    simp only [runI] at h ⊢
    generalize x.v E = xv at h
    unfold iNilchk at h ⊢
    split at h <;> cases h <;> exact ⟨rfl, fun K => rfl⟩
  case bin op x y => exact ⟨(ret_same h H).1, fun K => (ret_same h K).2⟩
  case eqc k neg x y =>
    simp only [runI, iEqc] at h ⊢
    split at h
    · cases h; exact ⟨rfl, fun K => rfl⟩
    · cases h
  case eqa k neg x y =>
    simp only [runI] at h ⊢
    generalize x.v E = xv at h
    generalize y.v E = yv at h
    unfold iEqa at h ⊢
    split at h
    · split at h
      · rename_i hc; cases h; exact ⟨rfl, fun K => by simp only [hc]⟩
      · cases h
    · cases h
  case un op x => exact ⟨(ret_same h H).1, fun K => (ret_same h K).2⟩
  case conv k x =>
    simp only [runI] at h ⊢
    generalize x.v E = xv at h
    unfold iConv at h ⊢
    split at h
    · cases h; exact ⟨rfl, fun K => rfl⟩
    · cases h
  case convs x =>
    simp only [runI] at h ⊢
    generalize x.v E = xv at h
    unfold iConvs at h ⊢
    split at h
    · cases h; exact ⟨rfl, fun K => rfl⟩
    · cases h
  case sls x lo hi => exact ⟨(ret_same h H).1, fun K => (ret_same h K).2⟩
  case sla n sz x lo hi mx => exact ⟨(ret_same h H).1, fun K => (ret_same h K).2⟩
  case fadr off x =>
    simp only [runI] at h ⊢
    generalize x.v E = xv at h
    unfold iFadr at h ⊢
    split at h
    · cases h; exact ⟨rfl, fun K => rfl⟩
    · cases h
  case ixs sz x i =>
    simp only [runI] at h ⊢
    generalize x.v E = xv at h
    generalize i.v E = iv at h
    unfold iIxs at h ⊢
    split at h
    · split at h
      · rename_i hj; cases h; exact ⟨rfl, fun K => by simp only [hj]⟩
      · cases h
    · cases h
  case ixa n sz x i =>
    simp only [runI] at h ⊢
    generalize x.v E = xv at h
    generalize i.v E = iv at h
    unfold iIxa at h ⊢
    split at h
    · split at h
      · rename_i hj; cases h; exact ⟨rfl, fun K => by simp only [hj]⟩
      · cases h
    · cases h
  case fld off n x =>
    simp only [runI] at h ⊢
    generalize x.v E = xv at h
    cases xv <;> first | exact ⟨(ret_same h H).1, fun K => (ret_same h K).2⟩ | cases h
  case ixg l sz ag x i =>
    simp only [runI] at h ⊢
    generalize x.v E = xv at h
    generalize i.v E = iv at h
    unfold iIxg at h ⊢
    split at h
    · split at h
      · rename_i hj; exact ⟨(ret_same h H).1, fun K => (ret_same h K).2⟩
      · cases h
    · cases h
  case ixt x i =>
    simp only [runI] at h ⊢
    generalize x.v E = xv at h
    generalize i.v E = iv at h
    unfold iIxt at h ⊢
    split at h
    · split at h
      · rename_i hj
        split at h
        · rename_i hb; cases h; exact ⟨rfl, fun K => by simp only [hj, hb]⟩
        · cases h
      · cases h
    · cases h
  case lens x =>
    simp only [runI] at h ⊢
    generalize x.v E = xv at h
    cases xv <;> cases h
    exact ⟨rfl, fun K => rfl⟩
  case lent x =>
    simp only [runI] at h ⊢
    generalize x.v E = xv at h
    cases xv <;> cases h
    exact ⟨rfl, fun K => rfl⟩
  case caps x =>
    simp only [runI] at h ⊢
    generalize x.v E = xv at h
    unfold iCaps at h ⊢
    split at h <;> cases h <;> exact ⟨rfl, fun K => rfl⟩
  case minmax mx xs =>
    simp only [runI] at h ⊢
    generalize vL E xs = l at h
    cases l with
    | nil => cases h
    | cons y l => exact ⟨(ret_same h H).1, fun K => (ret_same h K).2⟩
  case ext i x =>
    simp only [runI] at h ⊢
    generalize x.v E = xv at h
    unfold iExt at h ⊢
    split at h
    · split at h
      · rename_i hj; cases h; exact ⟨rfl, fun K => by simp only [hj]⟩
      · cases h
    · cases h
  case mkf fn xs ys => cases h; exact ⟨rfl, fun K => rfl⟩
  case mki t x => cases h; exact ⟨rfl, fun K => rfl⟩

/-- What only looks at memory. -/
theorem read_run {ins : Ins} {ev : Ev} {E : Env} {H H' : Heap} {v : Value} (hs : ins.sort = 1) (h : runI ins ev E H = some (v, H')) : H' = H ∧ ∀ N, runI ins ev E ⟨N, H.tr⟩ = some (v, ⟨N, H.tr⟩) := by
  have hat : ∀ N b, Heap.at ⟨N, H.tr⟩ b = H.at b := fun _ _ => rfl
  have hrd : ∀ N a n, rdCells ⟨N, H.tr⟩ a n = rdCells H a n := fun _ _ _ => rfl
  cases ins <;> simp [Ins.sort] at hs
  case load x =>
    simp only [runI] at h ⊢
    generalize x.v E = xv at h
    unfold iLoad at h ⊢
    split at h
    · unfold one at h ⊢
      split at h
      · rename_i hb; cases h; exact ⟨rfl, fun N => by simp only [hrd, hb]⟩
      · cases h
    · cases h
  case loadn n x =>
    simp only [runI] at h ⊢
    generalize x.v E = xv at h
    unfold iLoadn at h ⊢
    split at h
    · unfold aggR at h ⊢
      split at h
      · rename_i hb; cases h; exact ⟨rfl, fun N => by simp only [hrd, hb]⟩
      · cases h
    · cases h
  case b2s x =>
    simp only [runI] at h ⊢
    generalize x.v E = xv at h
    unfold iB2s at h ⊢
    split at h
    · cases h; exact ⟨rfl, fun N => rfl⟩
    · split at h
      · rename_i hb
        split at h
        · rename_i hc; cases h; exact ⟨rfl, fun N => by simp only [hrd, hb, hc]⟩
        · cases h
      · cases h
    · cases h
  case slc t sz x lo hi mx =>
    have hse : ∀ N e a, sameE ⟨N, H.tr⟩ e a = sameE H e a := fun _ _ _ => rfl
    have hsl : ∀ N, sliceV ⟨N, H.tr⟩ t sz (x.v E) (vO E lo) (vO E hi) (vO E mx) = sliceV H t sz (x.v E) (vO E lo) (vO E hi) (vO E mx) := fun _ => rfl
    simp only [runI] at h ⊢
    exact ⟨(ret_same h H).1, fun N => by rw [hsl]; exact (ret_same h _).2⟩
  case lenm x =>
    simp only [runI] at h ⊢
    generalize x.v E = xv at h
    unfold iLenm at h ⊢
    split at h
    · cases h; exact ⟨rfl, fun N => rfl⟩
    · split at h
      · rename_i hb; cases h; exact ⟨rfl, fun N => by simp only [hat, hb]⟩
      · cases h
    · cases h
  case look ag ks z ok m k =>
    have hm : ∀ N, mapE (m.v E) ⟨N, H.tr⟩ = mapE (m.v E) H := fun _ => rfl
    simp only [runI, iLook] at h ⊢
    split at h
    · cases h
    · rename_i es hes
      split at h
      · rename_i hf; cases h; exact ⟨rfl, fun N => by simp only [hm, hes, hf]⟩
      · rename_i hf; cases h; exact ⟨rfl, fun N => by simp only [hm, hes, hf]⟩
      · cases h

/-- What makes a block, and looks at no memory. -/
theorem make_run {ins : Ins} {ev : Ev} {E : Env} {H H' : Heap} {v : Value} (hs : ins.sort = 2) (h : runI ins ev E H = some (v, H')) :
    ∃ x, Blk.own x = true ∧ H' = H.new x ∧ ∀ K, K.next = H.next → runI ins ev E K = some (v, K.new x) := by
  cases ins <;> simp [Ins.sort] at hs
  case alloc t zs => cases h; exact ⟨_, rfl, rfl, fun K hk => by simp only [runI, newPtr, hk]⟩
  case box t sz x =>
    simp only [runI, iBox] at h ⊢
    split at h
    · rename_i cs hc; cases h; exact ⟨.cells cs t true, rfl, rfl, fun K hk => by simp only [newPtr, hk]⟩
    · cases h
  case bslice t len zs ps =>
    simp only [runI, iBslice] at h ⊢
    split at h
    · rename_i cs hc; cases h; exact ⟨.cells cs t true, rfl, rfl, fun K hk => by simp only [hk]⟩
    · cases h
  case mks t sz bytes zs l c =>
    simp only [runI] at h ⊢
    generalize l.v E = lv at h
    generalize c.v E = cv at h
    unfold iMks at h ⊢
    split at h
    · obtain ⟨hb, h'⟩ := bifS h
      cases h'
      exact ⟨_, rfl, rfl, fun K hk => by simp only [hb, cond_true, hk]⟩
    · cases h
  case mkm => cases h; exact ⟨_, rfl, rfl, fun K hk => by simp only [runI, hk]⟩

end Go.Rx
