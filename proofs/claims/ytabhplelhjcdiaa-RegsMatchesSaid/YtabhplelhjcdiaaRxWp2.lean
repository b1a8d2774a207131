/- Regions whose order is open; no run loses blocks' numbers. -/
import Derived.Test.YtabhplelhjcdiaaRxAll
/- Regions whose order is open; no run loses blocks' numbers. -/
set_option linter.unusedVariables false
set_option linter.unusedSimpArgs false
namespace Go.Rx

def MonF (ff : Nat → List Value → Heap → R) : Prop := ∀ f args h v h', ff f args h = some (v, h') → h.next ≤ h'.next
def MonC (fc : AC → Env → Heap → RC) : Prop := ∀ c e h x e' h', fc c e h = some (x, e', h') → h.next ≤ h'.next

theorem wrB_next {h : Heap} {b off : Nat} {vs : List Value} {x : Option Blk} {h' : Heap} (hw : wrB h b off vs x = some h') : h'.next = h.next := by
  unfold wrB at hw
  split at hw
  · cases hq : allOne vs with
    | false => rw [hq] at hw; cases hw
    | true =>
      rw [hq] at hw
      simp only [cond_true] at hw
      split at hw
      · cases hw; rfl
      · cases hw
  · cases hw
theorem wrCells_next {h h' : Heap} {a : Addr} {vs : List Value} (hw : wrCells h a vs = some h') : h'.next = h.next := wrB_next hw

theorem ret_next {h h' : Heap} {x : Option Value} {v : Value} (hr : ret h x = some (v, h')) : h' = h := (ret_some hr).2
theorem one_next {h h' : Heap} {x : Option (List Value)} {v : Value} (hr : one h x = some (v, h')) : h' = h := by
  unfold one at hr
  split at hr
  · cases hr; rfl
  · cases hr
theorem aggR_next {h h' : Heap} {x : Option (List Value)} {v : Value} (hr : aggR h x = some (v, h')) : h' = h := by
  unfold aggR at hr
  split at hr
  · cases hr; rfl
  · cases hr

theorem appGrow_next {h h' : Heap} {e : TypeId} {a : Addr} {need : Nat} {cs : List Value} {v : Value} (hr : appGrow h e a need cs = some (v, h')) : h.next ≤ h'.next := by
  unfold appGrow at hr
  split at hr
  · cases hr; simp
  · split at hr
    · rename_i e' heq
      cases hb : Nat.beq e e' with
      | false => rw [hb] at hr; cases hr
      | true => rw [hb] at hr; cases hr; simp
    · cases hr
theorem appV_next {h h' : Heap} {e : TypeId} {sz bytes : Nat} {x y v : Value} (hr : appV h e sz bytes x y = some (v, h')) : h.next ≤ h'.next := by
  unfold appV at hr
  split at hr
  · cases hr
  · split at hr
    · rename_i new m hnew x
      cases h1 : Nat.beq m 0 with
      | true => rw [h1] at hr; cases hr; exact Nat.le_refl _
      | false =>
        rw [h1] at hr
        cases h2 : Nat.ble (m * (bytes + 1)) limB with
        | true => rw [h2] at hr; cases hr; simp
        | false => rw [h2] at hr; cases hr
    · rename_i new m hnew x a n c
      cases h1 : Nat.ble (n + m) c with
      | true =>
        rw [h1] at hr
        simp only [cond_true] at hr
        cases h2 : Nat.beq m 0 with
        | true => rw [h2] at hr; cases hr; exact Nat.le_refl _
        | false =>
          rw [h2] at hr
          simp only [cond_false] at hr
          split at hr
          · rename_i h1 hw; cases hr; rw [wrCells_next hw]; exact Nat.le_refl _
          · cases hr
      | false =>
        rw [h1] at hr
        simp only [cond_false] at hr
        cases h2 : Nat.ble ((n + m) * (bytes + 1)) limB with
        | true =>
          rw [h2] at hr
          simp only [cond_true] at hr
          split at hr
          · cases hr
          · exact appGrow_next hr
        | false => rw [h2] at hr; cases hr
    · cases hr

theorem copyV_next {h h' : Heap} {sz : Nat} {x y v : Value} (hr : copyV h sz x y = some (v, h')) : h.next ≤ h'.next := by
  unfold copyV at hr
  split at hr
  · split at hr
    · cases hr; exact Nat.le_refl _
    · cases hr; exact Nat.le_refl _
    · cases hr
  · split at hr
    · cases hr
    · rename_i new m hc
      cases h2 : Nat.beq m 0 with
      | true => rw [h2] at hr; cases hr; exact Nat.le_refl _
      | false =>
        rw [h2] at hr
        simp only [cond_false] at hr
        split at hr
        · rename_i h1 hw; cases hr; rw [wrCells_next hw]; exact Nat.le_refl _
        · cases hr
  · cases hr

theorem runI_mono {ins : Ins} {ev : Ev} {e : Env} {h : Heap} {v : Value} {h' : Heap} (hF : MonF ev.f) (hr : runI ins ev e h = some (v, h')) : h.next ≤ h'.next := by
  have same : h' = h → h.next ≤ h'.next := fun e => by rw [e]; exact Nat.le_refl _
  cases ins
  case mov x => cases hr; exact Nat.le_refl _
  case pick c a b =>
    have hr : iPick (c.v e) (a.v e) (b.v e) h = some (v, h') := hr
    generalize c.v e = u at hr
    cases u with
    | bool t => cases hr; exact Nat.le_refl _
    | _ => cases hr
  case alloc t zs => cases hr; simp
  case box t sz x =>
    have hr : iBox t sz (x.v e) h = some (v, h') := hr
    unfold iBox at hr
    split at hr
    · cases hr; simp
    · cases hr
  case build zs ps =>
    have hr : iBuild e zs ps h = some (v, h') := hr
    unfold iBuild at hr
    split at hr
    · cases hr; exact Nat.le_refl _
    · cases hr
  case bslice t len zs ps =>
    have hr : iBslice e t len zs ps h = some (v, h') := hr
    unfold iBslice at hr
    split at hr
    · cases hr; simp
    · cases hr
  case load a =>
    have hr : iLoad (a.v e) h = some (v, h') := hr
    generalize a.v e = u at hr
    unfold iLoad at hr
    split at hr
    · exact same (one_next hr)
    · cases hr
  case loadn n a =>
    have hr : iLoadn (a.v e) n h = some (v, h') := hr
    generalize a.v e = u at hr
    unfold iLoadn at hr
    split at hr
    · exact same (aggR_next hr)
    · cases hr
  case store n a x =>
    have hr : iStore n (a.v e) (x.v e) h = some (v, h') := hr
    unfold iStore at hr
    split at hr
    · split at hr
      · split at hr
        · rename_i h1 hw; cases hr; rw [wrCells_next hw]; exact Nat.le_refl _
        · cases hr
      · cases hr
    · cases hr
  case nilchk x =>
    have hr : iNilchk (x.v e) h = some (v, h') := hr
    generalize x.v e = u at hr
    unfold iNilchk at hr
    split at hr
    · cases hr
    · cases hr; exact Nat.le_refl _
    · cases hr; exact Nat.le_refl _
    · cases hr
  case bin op x y => exact same (ret_next hr)
  case eqc k neg x y =>
    have hr : iEqc k neg (x.v e) (y.v e) h = some (v, h') := hr
    unfold iEqc at hr
    split at hr
    · cases hr; exact Nat.le_refl _
    · cases hr
  case eqa ks neg x y =>
    have hr : iEqa ks neg (x.v e) (y.v e) h = some (v, h') := hr
    unfold iEqa at hr
    split at hr
    · split at hr
      · cases hr; exact Nat.le_refl _
      · cases hr
    · cases hr
  case un op x => exact same (ret_next hr)
  case conv k x =>
    have hr : iConv k (x.v e) h = some (v, h') := hr
    unfold iConv at hr
    split at hr
    · cases hr; exact Nat.le_refl _
    · cases hr
  case convs x =>
    have hr : iConvs (x.v e) h = some (v, h') := hr
    unfold iConvs at hr
    split at hr
    · cases hr; exact Nat.le_refl _
    · cases hr
  case b2s x =>
    have hr : iB2s (x.v e) h = some (v, h') := hr
    unfold iB2s at hr
    split at hr
    · cases hr; exact Nat.le_refl _
    · split at hr
      · split at hr
        · cases hr; exact Nat.le_refl _
        · cases hr
      · cases hr
    · cases hr
  case slc t sz x lo hi mx => exact same (ret_next hr)
  case sls x lo hi => exact same (ret_next hr)
  case sla n sz x lo hi mx => exact same (ret_next hr)
  case fadr off x =>
    have hr : iFadr (x.v e) off h = some (v, h') := hr
    generalize x.v e = u at hr
    unfold iFadr at hr
    split at hr
    · cases hr; exact Nat.le_refl _
    · cases hr
  case ixs sz x i =>
    have hr : iIxs sz (x.v e) (i.v e) h = some (v, h') := hr
    unfold iIxs at hr
    split at hr
    · split at hr
      · cases hr; exact Nat.le_refl _
      · cases hr
    · cases hr
  case ixa n sz x i =>
    have hr : iIxa n sz (x.v e) (i.v e) h = some (v, h') := hr
    unfold iIxa at hr
    split at hr
    · split at hr
      · cases hr; exact Nat.le_refl _
      · cases hr
    · cases hr
  case fld off n x =>
    have hr : iFld off n (x.v e) h = some (v, h') := hr
    unfold iFld at hr
    split at hr
    · exact same (ret_next hr)
    · cases hr
  case ixg len sz ag x i =>
    have hr : iIxg len sz ag (x.v e) (i.v e) h = some (v, h') := hr
    unfold iIxg at hr
    split at hr
    · split at hr
      · exact same (ret_next hr)
      · cases hr
    · cases hr
  case ixt x i =>
    have hr : iIxt (x.v e) (i.v e) h = some (v, h') := hr
    unfold iIxt at hr
    split at hr
    · split at hr
      · split at hr
        · cases hr; exact Nat.le_refl _
        · cases hr
      · cases hr
    · cases hr
  case lens x =>
    have hr : iLens (x.v e) h = some (v, h') := hr
    generalize x.v e = u at hr
    unfold iLens at hr
    split at hr
    · cases hr; exact Nat.le_refl _
    · cases hr
  case lent x =>
    have hr : iLent (x.v e) h = some (v, h') := hr
    generalize x.v e = u at hr
    unfold iLent at hr
    split at hr
    · cases hr; exact Nat.le_refl _
    · cases hr
  case lenm x =>
    have hr : iLenm (x.v e) h = some (v, h') := hr
    unfold iLenm at hr
    split at hr
    · cases hr; exact Nat.le_refl _
    · split at hr
      · cases hr; exact Nat.le_refl _
      · cases hr
    · cases hr
  case caps x =>
    have hr : iCaps (x.v e) h = some (v, h') := hr
    unfold iCaps at hr
    split at hr
    · cases hr; exact Nat.le_refl _
    · cases hr; exact Nat.le_refl _
    · cases hr
  case minmax mx xs =>
    have hr : iMinmax mx (vL e xs) h = some (v, h') := hr
    unfold iMinmax at hr
    split at hr
    · cases hr
    · exact same (ret_next hr)
  case app t sz bytes x y => exact appV_next hr
  case mks t sz bytes zs l c =>
    have hr : iMks t sz bytes zs (l.v e) (c.v e) h = some (v, h') := hr
    unfold iMks at hr
    split at hr
    · rename_i k l k' c _ _
      cases hb : Nat.ble l c && Nat.ble (c * bytes) limB && Nat.ble c 9223372036854775807 with
      | true => rw [hb] at hr; cases hr; simp
      | false => rw [hb] at hr; cases hr
    · cases hr
  case mkm => cases hr; simp
  case look ag ks zero ok m k =>
    have hr : iLook ag ks zero ok (m.v e) (k.v e) h = some (v, h') := hr
    unfold iLook at hr
    split at hr
    · cases hr
    · split at hr
      · cases hr; exact Nat.le_refl _
      · cases hr; exact Nat.le_refl _
      · cases hr
  case mset ag ks m k u =>
    have hr : iMset ag ks (m.v e) (k.v e) (u.v e) h = some (v, h') := hr
    unfold iMset at hr
    split at hr
    · split at hr
      · split at hr
        · cases hr; exact Nat.le_refl _
        · cases hr; exact Nat.le_refl _
        · cases hr
      · cases hr
    · cases hr
  case ment ag ks zero m k =>
    have hr : iMent ag ks zero (m.v e) (k.v e) h = some (v, h') := hr
    unfold iMent at hr
    split at hr
    · split at hr
      · split at hr
        · cases hr; exact Nat.le_refl _
        · cases hr; exact Nat.le_refl _
        · cases hr
      · cases hr
    · cases hr
  case mst m s u =>
    have hr : iMst (m.v e) (s.v e) (u.v e) h = some (v, h') := hr
    unfold iMst at hr
    split at hr
    · split at hr
      · split at hr
        · cases hr; exact Nat.le_refl _
        · cases hr
      · cases hr
    · cases hr
  case ext i x =>
    have hr : iExt i (x.v e) h = some (v, h') := hr
    unfold iExt at hr
    split at hr
    · split at hr
      · cases hr; exact Nat.le_refl _
      · cases hr
    · cases hr
  case call f args => exact hF _ _ _ _ _ hr
  case calld y args =>
    have hr : callD (y.v e) ev (vL e args) h = some (v, h') := hr
    generalize y.v e = u at hr
    cases u with
    | func fn a b =>
      cases fn with
      | func g => exact hF _ _ _ _ _ hr
      | _ => cases hr
    | _ => cases hr
  case mkf fn a b => cases hr; exact Nat.le_refl _
  case mki t x => cases hr; exact Nat.le_refl _
  case cpy sz x y => exact copyV_next hr
  case fail => cases hr

theorem runB_mono {ev : Ev} (hF : MonF ev.f) : ∀ {l : List GI} {e : Env} {h : Heap} {e' : Env} {h' : Heap}, runB ev l e h = some (e', h') → h.next ≤ h'.next
  | [], e, h, e', h', hr => by cases hr; exact Nat.le_refl _
  | g :: l, e, h, e', h', hr => by
    rw [runB_cons] at hr
    cases hon : onG g.g e with
    | true =>
      rw [hon] at hr
      simp only [cond_true] at hr
      obtain ⟨v, h1, hx, hk⟩ := runB1_some hr
      exact Nat.le_trans (runI_mono hF hx) (runB_mono hF hk)
    | false =>
      rw [hon] at hr
      exact runB_mono hF hr

theorem monoH_snoc : ∀ {l : List Heap} {h h' : Heap}, monoH (l ++ [h]) = true → h.next ≤ h'.next → monoH (l ++ [h] ++ [h']) = true
  | [], h, h', _, hle => by simp [monoH, Nat.ble_eq, hle]
  | [a], h, h', hm, hle => by
    simp only [List.cons_append, List.nil_append, monoH, Bool.and_eq_true] at hm ⊢
    exact ⟨hm.1, by rw [Nat.ble_eq]; exact hle, trivial, trivial⟩
  | a :: b :: l, h, h', hm, hle => by
    have hm : (Nat.ble a.next b.next && monoH ((b :: l) ++ [h])) = true := hm
    rw [Bool.and_eq_true] at hm
    show (Nat.ble a.next b.next && monoH ((b :: l) ++ [h] ++ [h'])) = true
    rw [Bool.and_eq_true]
    exact ⟨hm.1, monoH_snoc (l := b :: l) hm.2 hle⟩

theorem runT_mono {ev : Ev} (hF : MonF ev.f) : ∀ {l : List GI} {e : Env} {h : Heap} {pre : List Heap} {e' : Env} {h' : Heap} {hs : List Heap}, runT ev l e h (pre ++ [h]) = some (e', h', hs) → monoH (pre ++ [h]) = true → h.next ≤ h'.next ∧ monoH hs = true
  | [], e, h, pre, e', h', hs, hr, hm => by cases hr; exact ⟨Nat.le_refl _, hm⟩
  | g :: l, e, h, pre, e', h', hs, hr, hm => by
    rw [runT_cons] at hr
    cases hon : onG g.g e with
    | true =>
      rw [hon] at hr
      simp only [cond_true] at hr
      obtain ⟨v, h1, hx, hk⟩ := runT1_some hr
      have hle := runI_mono hF hx
      obtain ⟨a, b⟩ := runT_mono hF (pre := pre ++ [h]) hk (monoH_snoc hm hle)
      exact ⟨Nat.le_trans hle a, b⟩
    | false =>
      rw [hon] at hr
      exact runT_mono hF (pre := pre ++ [h]) hr (monoH_snoc hm (Nat.le_refl _))

theorem runD_mono {ev : Ev} (hF : MonF ev.f) {l : List GI} {ps : List (Nat × Nat)} {e : Env} {h : Heap} {e' : Env} {h' : Heap} (hr : runD ev l ps e h = some (e', h')) : h.next ≤ h'.next := by
  unfold runD at hr
  split at hr
  · rename_i e1 h1 hs hrt
    obtain ⟨_, hr⟩ := bifS hr
    cases hr
    exact (runT_mono hF (pre := []) hrt rfl).1
  · cases hr

theorem stepC_mono {ev : Ev} (hF : MonF ev.f) (hC : MonC ev.c) : MonC (stepC ev) := by
  intro c e h x e' h' hr
  have seqs : ∀ a b, thenC ev b (ev.c a e h) = some (x, e', h') → h.next ≤ h'.next := by
    intro a b hr
    cases hq : ev.c a e h with
    | none => rw [hq] at hr; cases hr
    | some p =>
      rw [hq] at hr
      obtain ⟨q, e1, h1⟩ := p
      have := hC _ _ _ _ _ _ hq
      cases q with
      | normal => exact Nat.le_trans this (hC _ _ _ _ _ _ hr)
      | exit i => cases hr; exact this
      | ret => cases hr; exact this
  cases c with
  | skip => cases hr; exact Nat.le_refl _
  | reg l =>
    have hr : regC (runB ev l e h) = some (x, e', h') := hr
    exact runB_mono hF (regC_some hr).2
  | regd l ps =>
    have hr : regC (runD ev l ps e h) = some (x, e', h') := hr
    exact runD_mono hF (regC_some hr).2
  | seq a b => exact seqs a b hr
  | cond c a b =>
    have hr : condC (c.v e) ev a b e h = some (x, e', h') := hr
    generalize c.v e = u at hr
    cases u with
    | bool t => cases t <;> exact hC _ _ _ _ _ _ hr
    | _ => cases hr
  | block id a =>
    have hr : blockC id (ev.c a e h) = some (x, e', h') := hr
    cases hq : ev.c a e h with
    | none => rw [hq] at hr; cases hr
    | some p =>
      rw [hq] at hr
      obtain ⟨q, e1, h1⟩ := p
      have := hC _ _ _ _ _ _ hq
      cases q with
      | normal => cases hr; exact this
      | exit i =>
        have hr : (bif Nat.beq i id then some (Ex.normal, e1, h1) else some (Ex.exit i, e1, h1)) = some (x, e', h') := hr
        cases hb : Nat.beq i id <;> rw [hb] at hr <;> cases hr <;> exact this
      | ret => cases hr; exact this
  | loop a => exact seqs a (.loop a) hr
  | exit id => cases hr; exact Nat.le_refl _
  | ret => cases hr; exact Nat.le_refl _

theorem fEnd_mono {rs : List (Nat × Option (Option Nat))} {x : RC} {h : Heap} {v : Value} {h' : Heap} (hx : ∀ q e1 h1, x = some (q, e1, h1) → h.next ≤ h1.next) (hr : fEnd rs x = some (v, h')) : h.next ≤ h'.next := by
  unfold fEnd at hr
  split at hr
  · rw [ret_next hr]; exact hx _ _ _ rfl
  · rw [ret_next hr]; exact hx _ _ _ rfl
  · cases hr

theorem evN_mono {F : Nat → Option AF} {O : Nat → Option (List Value → Heap → R)} (hO : ∀ f s args h v h', O f = some s → s args h = some (v, h') → h.next ≤ h'.next) : ∀ n, MonF (evN F O n).f ∧ MonC (evN F O n).c
  | 0 => ⟨fun f args h v h' hr => (by cases hr), fun c e h x e' h' hr => (by cases hr)⟩
  | n + 1 => by
    obtain ⟨h1, h2⟩ := evN_mono hO n
    refine ⟨fun f args h v h' hr => ?_, stepC_mono h1 h2⟩
    have hr : (match O f with | some s => s args h | none => stepF F (evN F O n) f args h) = some (v, h') := hr
    split at hr
    · rename_i s hs; exact hO f s args h v h' hs hr
    · unfold stepF at hr
      split at hr
      · exact fEnd_mono (fun q e1 h1 hq => h2 _ _ _ _ _ _ hq) hr
      · cases hr

def Mach.Mono (M : Mach) : Prop := ∀ f s args h v h', M.O f = some s → s args h = some (v, h') → h.next ≤ h'.next
theorem Mach.Mono.f {M : Mach} (h : M.Mono) : MonF M.ev.f := fun f args H v H' hr => by
  obtain ⟨n, hn⟩ := evL_f.1 hr
  exact (evN_mono h n).1 f args H v H' hn
theorem WF_next {M : Mach} (hm : M.Mono) {f : Nat} {args : List Value} {h : Heap} {K : KF} (hw : WF M f args h K) : WF M f args h (fun v h' => h.next ≤ h'.next ∧ K v h') := by
  obtain ⟨v, h', h1, h2⟩ := hw
  exact ⟨v, h', h1, hm.f _ _ _ _ _ h1, h2⟩

/-! ### Regions whose order is open -/
variable {M : Mach}
abbrev KT := Env → Heap → List Heap → Prop
def WT (M : Mach) (l : List GI) (e : Env) (h : Heap) (hs : List Heap) (K : KT) : Prop := ∃ e' h' hs', runT M.ev l e h hs = some (e', h', hs') ∧ K e' h' hs'
def WTI (M : Mach) (r : R) (d : Option Nat) (l : List GI) (e : Env) (hs : List Heap) (K : KT) : Prop := ∃ v h', r = some (v, h') ∧ WT M l (putD e d v) h' (hs ++ [h']) K
def CallKT (M : Mach) (d : Option Nat) (l : List GI) (e : Env) (hs : List Heap) (K : KT) : KF := fun v h' => WT M l (putD e d v) h' (hs ++ [h']) K
def WTG (M : Mach) (t : Bool) (d : Option Nat) (ins : Ins) (l : List GI) (e : Env) (h : Heap) (hs : List Heap) (K : KT) : Prop :=
  if t = true then WT M (⟨d, none, ins⟩ :: l) e h hs K else WT M l (putD e d undef) h (hs ++ [h]) K
def DrawK (M : Mach) (l : List GI) (ps : List (Nat × Nat)) (K : KC) : KT := fun e h hs => staysAll M.ev l e hs ps = true ∧ K .normal e h

theorem WT_nil {e : Env} {h : Heap} {hs : List Heap} {K : KT} : WT M [] e h hs K = K e h hs := by
  refine propext ⟨?_, fun hk => ⟨e, h, hs, rfl, hk⟩⟩
  rintro ⟨e', h', hs', hh, hk⟩
  cases hh
  exact hk
theorem WT_cons {d : Option Nat} {ins : Ins} {l : List GI} {e : Env} {h : Heap} {hs : List Heap} {K : KT} : WT M (⟨d, none, ins⟩ :: l) e h hs K = WTI M (runI ins M.ev e h) d l e hs K := by
  unfold WT WTI
  rw [runT_cons]
  refine propext ⟨?_, ?_⟩
  · rintro ⟨e', h', hs', hh, hk⟩
    have hh : runT1 (runT M.ev l) d e hs (runI ins M.ev e h) = some (e', h', hs') := hh
    obtain ⟨v, h1, hx, hy⟩ := runT1_some hh
    exact ⟨v, h1, hx, e', h', hs', hy, hk⟩
  · rintro ⟨v, h1, hx, e', h', hs', hy, hk⟩
    refine ⟨e', h', hs', ?_, hk⟩
    show runT1 (runT M.ev l) d e hs (runI ins M.ev e h) = some (e', h', hs')
    rw [hx]
    show forceV v (fun v => runT M.ev l (putD e d v) h1 (hs ++ [h1])) = _
    rw [forceV_eq]
    exact hy
theorem WT_guard {d : Option Nat} {j : Nat} {b : Bool} {ins : Ins} {l : List GI} {e : Env} {h : Heap} {hs : List Heap} {K : KT} :
    WT M (⟨d, some (j, b), ins⟩ :: l) e h hs K = WTG M (isB (e.g j) b) d ins l e h hs K := by
  unfold WTG WT
  rw [runT_cons, runT_cons]
  have : onG (some (j, b)) e = isB (e.g j) b := rfl
  rw [this]
  cases isB (e.g j) b <;> rfl
theorem WTG_true {d : Option Nat} {ins : Ins} {l : List GI} {e : Env} {h : Heap} {hs : List Heap} {K : KT} : WTG M true d ins l e h hs K = WTI M (runI ins M.ev e h) d l e hs K := by
  rw [← WT_cons]; rfl
theorem WTG_false {d : Nat} {ins : Ins} {l : List GI} {e : Env} {h : Heap} {hs : List Heap} {K : KT} : WTG M false (some d) ins l e h hs K = WT M l (e.s d undef) h (hs ++ [h]) K := rfl
theorem WTG_false' {ins : Ins} {l : List GI} {e : Env} {h : Heap} {hs : List Heap} {K : KT} : WTG M false none ins l e h hs K = WT M l e h (hs ++ [h]) K := rfl
theorem WTG_dec {p : Prop} [Decidable p] {d : Option Nat} {ins : Ins} {l : List GI} {e : Env} {h : Heap} {hs : List Heap} {K : KT} (h1 : p → WTG M true d ins l e h hs K) (h2 : ¬ p → WTG M false d ins l e h hs K) : WTG M (decide p) d ins l e h hs K := by
  by_cases hp : p
  · rw [decide_eq_true hp]; exact h1 hp
  · rw [decide_eq_false hp]; exact h2 hp
theorem WTG_bool {t : Bool} {d : Option Nat} {ins : Ins} {l : List GI} {e : Env} {h : Heap} {hs : List Heap} {K : KT} (h1 : t = true → WTG M true d ins l e h hs K) (h2 : t = false → WTG M false d ins l e h hs K) : WTG M t d ins l e h hs K := by
  cases t
  · exact h2 rfl
  · exact h1 rfl
theorem WTI_some {v : Value} {h : Heap} {d : Nat} {l : List GI} {e : Env} {hs : List Heap} {K : KT} : WTI M (some (v, h)) (some d) l e hs K = WT M l (e.s d v) h (hs ++ [h]) K := by
  refine propext ⟨?_, fun hk => ⟨v, h, rfl, hk⟩⟩
  rintro ⟨v', h', hh, hk⟩
  cases hh
  exact hk
theorem WTI_none {v : Value} {h : Heap} {l : List GI} {e : Env} {hs : List Heap} {K : KT} : WTI M (some (v, h)) none l e hs K = WT M l e h (hs ++ [h]) K := by
  refine propext ⟨?_, fun hk => ⟨v, h, rfl, hk⟩⟩
  rintro ⟨v', h', hh, hk⟩
  cases hh
  exact hk
theorem WTI_call {f : Nat} {args : List Value} {h : Heap} {d : Option Nat} {l : List GI} {e : Env} {hs : List Heap} {K : KT} : WTI M (M.ev.f f args h) d l e hs K = WF M f args h (CallKT M d l e hs K) := rfl
theorem WTI_calld {x : Value} {args : List Value} {h : Heap} {d : Option Nat} {l : List GI} {e : Env} {hs : List Heap} {K : KT} : WTI M (callD x M.ev args h) d l e hs K = WD M x args h (CallKT M d l e hs K) := rfl
theorem CallKT_some {d : Nat} {l : List GI} {e : Env} {hs : List Heap} {K : KT} {v : Value} {h : Heap} : CallKT M (some d) l e hs K v h = WT M l (e.s d v) h (hs ++ [h]) K := rfl
theorem CallKT_none {l : List GI} {e : Env} {hs : List Heap} {K : KT} {v : Value} {h : Heap} : CallKT M none l e hs K v h = WT M l e h (hs ++ [h]) K := rfl

theorem runT_runB {ev : Ev} : ∀ {l : List GI} {e : Env} {h : Heap} {hs : List Heap} {e' : Env} {h' : Heap}, runB ev l e h = some (e', h') → ∃ hs', runT ev l e h hs = some (e', h', hs')
  | [], e, h, hs, e', h', hr => by cases hr; exact ⟨hs, rfl⟩
  | g :: l, e, h, hs, e', h', hr => by
    rw [runB_cons] at hr
    cases hon : onG g.g e with
    | true =>
      rw [hon] at hr
      simp only [cond_true] at hr
      obtain ⟨v, h1, hx, hk⟩ := runB1_some hr
      obtain ⟨hs', hq⟩ := runT_runB (hs := hs ++ [h1]) hk
      refine ⟨hs', ?_⟩
      rw [runT_cons, hon]
      simp only [cond_true]
      rw [hx]
      show forceV v (fun v => runT ev l (putD e g.dst v) h1 (hs ++ [h1])) = _
      rw [forceV_eq]
      exact hq
    | false =>
      rw [hon] at hr
      obtain ⟨hs', hq⟩ := runT_runB (hs := hs ++ [h]) hr
      refine ⟨hs', ?_⟩
      rw [runT_cons, hon]
      exact hq

theorem WC_regd0 (hm : M.Mono) {l : List GI} {e : Env} {h : Heap} {K : KC} (hw : WB M l e h (K .normal)) : WC M (.regd l []) e h K := by
  obtain ⟨e', h', hr, hk⟩ := hw
  refine WC_eq.2 ⟨.normal, e', h', ?_, hk⟩
  show regC (runD M.ev l [] e h) = _
  obtain ⟨hs, hq⟩ := runT_runB (hs := [h]) hr
  have hmono := (runT_mono hm.f (pre := []) hq rfl).2
  unfold runD
  rw [hq]
  simp only [hmono, staysAll, Bool.and_self, cond_true]
  rfl
theorem WC_regd (hm : M.Mono) {l : List GI} {ps : List (Nat × Nat)} {e : Env} {h : Heap} {K : KC} (hw : WT M l e h [h] (DrawK M l ps K)) : WC M (.regd l ps) e h K := by
  obtain ⟨e', h', hs, hr, hst, hk⟩ := hw
  refine WC_eq.2 ⟨.normal, e', h', ?_, hk⟩
  show regC (runD M.ev l ps e h) = _
  have hmono := (runT_mono hm.f (pre := []) hr rfl).2
  unfold runD
  rw [hr]
  simp only [hmono, hst, Bool.and_self, cond_true]
  rfl
theorem stays_on {ev : Ev} {l : List GI} {e : Env} {p d : Nat} {h : Heap} {ins : Ins} {v : Value} {h' : Heap} (hp : l[p]? = some ⟨some d, none, ins⟩) (hr : runI ins ev e h = some (v, h')) (hs : sameA v (e.g d) = true) : stays ev l e p (some h) = true := by
  unfold stays
  rw [hp]
  simp only [onG, cond_true, hr, hs]
theorem staysAll_one {ev : Ev} {l : List GI} {e : Env} {hs : List Heap} {p q : Nat} {h1 h2 : Heap} (e1 : hs[q]? = some h1) (e2 : hs[q + 1]? = some h2) (s1 : stays ev l e p (some h1) = true) (s2 : stays ev l e p (some h2) = true) : staysAll ev l e hs [(p, q)] = true := by
  simp only [staysAll, e1, e2, s1, s2, Bool.and_self]

end Go.Rx
