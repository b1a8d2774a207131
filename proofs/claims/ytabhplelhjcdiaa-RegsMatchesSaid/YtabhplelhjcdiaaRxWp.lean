/- Reasoning over the abstract machine: what is asked of a run, as a plain proposition, and its equations. -/
import Derived.Test.YtabhplelhjcdiaaRxLim
/- Reasoning over the abstract machine: what is asked of a run, as a plain proposition, and its equations. -/
set_option linter.unusedVariables false
set_option linter.unusedSimpArgs false
namespace Go.Rx
noncomputable section

variable {F : Nat → Option AF} {O : Nat → Option (List Value → Heap → R)}

/-- A machine that meets its own equations. -/
structure Mach where
  F : Nat → Option AF
  O : Nat → Option (List Value → Heap → R)
def Mach.ev (M : Mach) : Ev := evL M.F M.O

variable {M : Mach}

abbrev KB := Env → Heap → Prop
abbrev KC := Ex → Env → Heap → Prop
abbrev KF := Value → Heap → Prop

def WB (M : Mach) (l : List GI) (e : Env) (h : Heap) (K : KB) : Prop := ∃ e' h', runB M.ev l e h = some (e', h') ∧ K e' h'
def WC (M : Mach) (c : AC) (e : Env) (h : Heap) (K : KC) : Prop := ∃ x e' h', M.ev.c c e h = some (x, e', h') ∧ K x e' h'
def WF (M : Mach) (f : Nat) (args : List Value) (h : Heap) (K : KF) : Prop := ∃ v h', M.ev.f f args h = some (v, h') ∧ K v h'
def WD (M : Mach) (x : Value) (args : List Value) (h : Heap) (K : KF) : Prop := ∃ v h', callD x M.ev args h = some (v, h') ∧ K v h'
/-- An operation's answer, and what comes behind it. -/
def WI (M : Mach) (r : R) (d : Option Nat) (l : List GI) (e : Env) (K : KB) : Prop := ∃ v h', r = some (v, h') ∧ WB M l (putD e d v) h' K
def CallK (M : Mach) (d : Option Nat) (l : List GI) (e : Env) (K : KB) : KF := fun v h' => WB M l (putD e d v) h' K
def WCond (M : Mach) (v : Value) (a b : AC) (e : Env) (h : Heap) (K : KC) : Prop := ∃ t, v = .bool t ∧ WC M (bif t then a else b) e h K
def SeqK (M : Mach) (b : AC) (K : KC) : KC := fun x e h => match x with
  | .normal => WC M b e h K
  | x => K x e h
def BlockK (id : Nat) (K : KC) : KC := fun x e h => match x with
  | .exit i => if i = id then K .normal e h else K (.exit i) e h
  | x => K x e h
def LoopK (M : Mach) (I : Nat → Env → Heap → Prop) (m : Nat) (K : KC) : KC := fun x e h => match x with
  | .normal => ∃ m', m' < m ∧ I m' e h
  | x => K x e h
def FunK (rs : List (Nat × Option (Option Nat))) (K : KF) : KC := fun x e h => match x with
  | .exit _ => False
  | _ => ∃ v, resV e h rs = some v ∧ K v h

/-! ### Regions -/
theorem WB_nil {e : Env} {h : Heap} {K : KB} : WB M [] e h K = K e h := by
  unfold WB
  rw [runB_nil]
  refine propext ⟨?_, fun hk => ⟨e, h, rfl, hk⟩⟩
  rintro ⟨e', h', hh, hk⟩
  cases hh
  exact hk
theorem WB_cons {d : Option Nat} {ins : Ins} {l : List GI} {e : Env} {h : Heap} {K : KB} : WB M (⟨d, none, ins⟩ :: l) e h K = WI M (runI ins M.ev e h) d l e K := by
  unfold WB WI
  rw [runB_cons]
  refine propext ⟨?_, ?_⟩
  · rintro ⟨e', h', hh, hk⟩
    have hh : runB1 (runB M.ev l) d e (runI ins M.ev e h) = some (e', h') := hh
    obtain ⟨v, h1, hx, hy⟩ := runB1_some hh
    exact ⟨v, h1, hx, e', h', hy, hk⟩
  · rintro ⟨v, h1, hx, e', h', hy, hk⟩
    refine ⟨e', h', ?_, hk⟩
    show runB1 (runB M.ev l) d e (runI ins M.ev e h) = some (e', h')
    rw [hx]
    show forceV v (fun v => runB M.ev l (putD e d v) h1) = _
    rw [forceV_eq]
    exact hy
theorem WB_consG {d : Option Nat} {j : Nat} {b : Bool} {ins : Ins} {l : List GI} {e : Env} {h : Heap} {K : KB} :
    WB M (⟨d, some (j, b), ins⟩ :: l) e h K = (if isB (e.g j) b = true then WB M (⟨d, none, ins⟩ :: l) e h K else WB M l (putD e d undef) h K) := by
  unfold WB
  rw [runB_cons, runB_cons]
  have : onG (some (j, b)) e = isB (e.g j) b := rfl
  rw [this]
  cases isB (e.g j) b <;> rfl
theorem isB_bool (t b : Bool) : isB (.bool t) b = (t == b) := rfl

theorem WI_some {v : Value} {h : Heap} {d : Nat} {l : List GI} {e : Env} {K : KB} : WI M (some (v, h)) (some d) l e K = WB M l (e.s d v) h K := by
  unfold WI
  refine propext ⟨?_, fun hk => ⟨v, h, rfl, hk⟩⟩
  rintro ⟨v', h', hh, hk⟩
  cases hh
  exact hk
theorem WI_none {v : Value} {h : Heap} {l : List GI} {e : Env} {K : KB} : WI M (some (v, h)) none l e K = WB M l e h K := by
  unfold WI
  refine propext ⟨?_, fun hk => ⟨v, h, rfl, hk⟩⟩
  rintro ⟨v', h', hh, hk⟩
  cases hh
  exact hk
theorem WI_call {f : Nat} {args : List Value} {h : Heap} {d : Option Nat} {l : List GI} {e : Env} {K : KB} : WI M (M.ev.f f args h) d l e K = WF M f args h (CallK M d l e K) := rfl
theorem WI_calld {x : Value} {args : List Value} {h : Heap} {d : Option Nat} {l : List GI} {e : Env} {K : KB} : WI M (callD x M.ev args h) d l e K = WD M x args h (CallK M d l e K) := rfl
theorem WD_func {f : Nat} {a b args : List Value} {h : Heap} {K : KF} : WD M (.func (.func f) ⟨a⟩ ⟨b⟩) args h K = WF M f (a ++ args ++ b) h K := rfl
theorem CallK_some {d : Nat} {l : List GI} {e : Env} {K : KB} {v : Value} {h : Heap} : CallK M (some d) l e K v h = WB M l (e.s d v) h K := rfl
theorem CallK_none {l : List GI} {e : Env} {K : KB} {v : Value} {h : Heap} : CallK M none l e K v h = WB M l e h K := rfl

theorem wret_some {h : Heap} {v : Value} : ret h (some v) = some (v, h) := rfl
theorem Opd.v_t {n : Nat} {e : Env} : Opd.v (.t n) e = e.g n := rfl
theorem Opd.v_k {v : Value} {e : Env} : Opd.v (.k v) e = v := rfl
theorem wvL_nil {e : Env} : vL e [] = [] := rfl
theorem wvL_cons {e : Env} {x : Opd} {l : List Opd} : vL e (x :: l) = x.v e :: vL e l := rfl
theorem wvO_none {e : Env} : vO e none = none := rfl
theorem wvO_some {e : Env} {x : Opd} : vO e (some x) = some (x.v e) := rfl

section
variable {ev : Ev} {e : Env} {h : Heap}
theorem runI_mov {x : Opd} : runI (.mov x) ev e h = some (x.v e, h) := rfl
theorem runI_pick {c a b : Opd} : runI (.pick c a b) ev e h = iPick (c.v e) (a.v e) (b.v e) h := rfl
theorem runI_alloc {t : TypeId} {zs : List Value} : runI (.alloc t zs) ev e h = some (.pointer (some ⟨h.next, 0, none⟩), h.new (.cells zs t true)) := rfl
theorem runI_box {t : TypeId} {sz : Nat} {x : Opd} : runI (.box t sz x) ev e h = iBox t sz (x.v e) h := rfl
theorem runI_build {zs : List Value} {ps : List (Nat × Nat × Opd)} : runI (.build zs ps) ev e h = iBuild e zs ps h := rfl
theorem runI_bslice {t : TypeId} {len : Nat} {zs : List Value} {ps : List (Nat × Nat × Opd)} : runI (.bslice t len zs ps) ev e h = iBslice e t len zs ps h := rfl
theorem runI_load {a : Opd} : runI (.load a) ev e h = iLoad (a.v e) h := rfl
theorem runI_loadn {n : Nat} {a : Opd} : runI (.loadn n a) ev e h = iLoadn (a.v e) n h := rfl
theorem runI_store {n : Nat} {a x : Opd} : runI (.store n a x) ev e h = iStore n (a.v e) (x.v e) h := rfl
theorem runI_nilchk {x : Opd} : runI (.nilchk x) ev e h = iNilchk (x.v e) h := rfl
theorem runI_bin {op : BinOp} {x y : Opd} : runI (.bin op x y) ev e h = ret h (binV op (x.v e) (y.v e)) := rfl
theorem runI_eqc {k : Nat} {neg : Bool} {x y : Opd} : runI (.eqc k neg x y) ev e h = iEqc k neg (x.v e) (y.v e) h := rfl
theorem runI_eqa {ks : List Nat} {neg : Bool} {x y : Opd} : runI (.eqa ks neg x y) ev e h = iEqa ks neg (x.v e) (y.v e) h := rfl
theorem runI_un {op : UnOp} {x : Opd} : runI (.un op x) ev e h = ret h (unV op (x.v e)) := rfl
theorem runI_conv {k : IntKind} {x : Opd} : runI (.conv k x) ev e h = iConv k (x.v e) h := rfl
theorem runI_convs {x : Opd} : runI (.convs x) ev e h = iConvs (x.v e) h := rfl
theorem runI_b2s {x : Opd} : runI (.b2s x) ev e h = iB2s (x.v e) h := rfl
theorem runI_slc {t : TypeId} {sz : Nat} {x : Opd} {lo hi mx : Option Opd} : runI (.slc t sz x lo hi mx) ev e h = ret h (sliceV h t sz (x.v e) (vO e lo) (vO e hi) (vO e mx)) := rfl
theorem runI_sls {x : Opd} {lo hi : Option Opd} : runI (.sls x lo hi) ev e h = ret h (sliceS (x.v e) (vO e lo) (vO e hi)) := rfl
theorem runI_sla {n sz : Nat} {x : Opd} {lo hi mx : Option Opd} : runI (.sla n sz x lo hi mx) ev e h = ret h (sliceA n sz (x.v e) (vO e lo) (vO e hi) (vO e mx)) := rfl
theorem runI_fadr {off : Nat} {x : Opd} : runI (.fadr off x) ev e h = iFadr (x.v e) off h := rfl
theorem runI_ixs {sz : Nat} {x i : Opd} : runI (.ixs sz x i) ev e h = iIxs sz (x.v e) (i.v e) h := rfl
theorem runI_ixa {n sz : Nat} {x i : Opd} : runI (.ixa n sz x i) ev e h = iIxa n sz (x.v e) (i.v e) h := rfl
theorem runI_fld {off : Nat} {n : Option Nat} {x : Opd} : runI (.fld off n x) ev e h = iFld off n (x.v e) h := rfl
theorem runI_ixg {len sz : Nat} {ag : Bool} {x i : Opd} : runI (.ixg len sz ag x i) ev e h = iIxg len sz ag (x.v e) (i.v e) h := rfl
theorem runI_ixt {x i : Opd} : runI (.ixt x i) ev e h = iIxt (x.v e) (i.v e) h := rfl
theorem runI_lens {x : Opd} : runI (.lens x) ev e h = iLens (x.v e) h := rfl
theorem runI_lent {x : Opd} : runI (.lent x) ev e h = iLent (x.v e) h := rfl
theorem runI_lenm {x : Opd} : runI (.lenm x) ev e h = iLenm (x.v e) h := rfl
theorem runI_caps {x : Opd} : runI (.caps x) ev e h = iCaps (x.v e) h := rfl
theorem runI_minmax {mx : Bool} {xs : List Opd} : runI (.minmax mx xs) ev e h = iMinmax mx (vL e xs) h := rfl
theorem runI_app {t : TypeId} {sz bytes : Nat} {x y : Opd} : runI (.app t sz bytes x y) ev e h = appV h t sz bytes (x.v e) (y.v e) := rfl
theorem runI_mks {t : TypeId} {sz bytes : Nat} {zs : List Value} {l c : Opd} : runI (.mks t sz bytes zs l c) ev e h = iMks t sz bytes zs (l.v e) (c.v e) h := rfl
theorem runI_mkm : runI .mkm ev e h = some (.map (some h.next), h.new (.map [])) := rfl
theorem runI_look {ag : Bool} {ks : List Nat} {zero : Value} {ok : Bool} {m k : Opd} : runI (.look ag ks zero ok m k) ev e h = iLook ag ks zero ok (m.v e) (k.v e) h := rfl
theorem runI_mset {ag : Bool} {ks : List Nat} {m k v : Opd} : runI (.mset ag ks m k v) ev e h = iMset ag ks (m.v e) (k.v e) (v.v e) h := rfl
theorem runI_ment {ag : Bool} {ks : List Nat} {zero : Value} {m k : Opd} : runI (.ment ag ks zero m k) ev e h = iMent ag ks zero (m.v e) (k.v e) h := rfl
theorem runI_mst {m s v : Opd} : runI (.mst m s v) ev e h = iMst (m.v e) (s.v e) (v.v e) h := rfl
theorem runI_ext {i : Nat} {x : Opd} : runI (.ext i x) ev e h = iExt i (x.v e) h := rfl
theorem runI_call {f : Nat} {args : List Opd} : runI (.call f args) ev e h = ev.f f (vL e args) h := rfl
theorem runI_calld {x : Opd} {args : List Opd} : runI (.calld x args) ev e h = callD (x.v e) ev (vL e args) h := rfl
theorem runI_mkf {fn : Fn} {a b : List Opd} : runI (.mkf fn a b) ev e h = some (.func fn ⟨vL e a⟩ ⟨vL e b⟩, h) := rfl
theorem runI_mki {t : TypeId} {x : Opd} : runI (.mki t x) ev e h = some (.iface t (x.v e), h) := rfl
theorem runI_cpy {sz : Nat} {x y : Opd} : runI (.cpy sz x y) ev e h = copyV h sz (x.v e) (y.v e) := rfl
end

/-! ### Code -/
theorem WC_eq {c : AC} {e : Env} {h : Heap} {K : KC} : WC M c e h K ↔ ∃ x e' h', stepC M.ev c e h = some (x, e', h') ∧ K x e' h' := by
  unfold WC Mach.ev
  simp only [evL_c_eq]
theorem WC_skip {e : Env} {h : Heap} {K : KC} : WC M .skip e h K = K .normal e h := by
  refine propext (WC_eq.trans ⟨?_, fun hk => ⟨_, _, _, rfl, hk⟩⟩)
  rintro ⟨x, e', h', hh, hk⟩
  cases hh; exact hk
theorem WC_ret {e : Env} {h : Heap} {K : KC} : WC M .ret e h K = K .ret e h := by
  refine propext (WC_eq.trans ⟨?_, fun hk => ⟨_, _, _, rfl, hk⟩⟩)
  rintro ⟨x, e', h', hh, hk⟩
  cases hh; exact hk
theorem WC_exit {id : Nat} {e : Env} {h : Heap} {K : KC} : WC M (.exit id) e h K = K (.exit id) e h := by
  refine propext (WC_eq.trans ⟨?_, fun hk => ⟨_, _, _, rfl, hk⟩⟩)
  rintro ⟨x, e', h', hh, hk⟩
  cases hh; exact hk
theorem WC_reg {l : List GI} {e : Env} {h : Heap} {K : KC} : WC M (.reg l) e h K = WB M l e h (K .normal) := by
  refine propext (WC_eq.trans ⟨?_, ?_⟩)
  · rintro ⟨x, e', h', hh, hk⟩
    have hh : regC (runB M.ev l e h) = some (x, e', h') := hh
    obtain ⟨h1, h2⟩ := regC_some hh
    simp only at h1 h2
    subst h1
    exact ⟨e', h', h2, hk⟩
  · rintro ⟨e', h', hh, hk⟩
    refine ⟨.normal, e', h', ?_, hk⟩
    show regC (runB M.ev l e h) = _
    rw [hh]; rfl
theorem WC_seq {a b : AC} {e : Env} {h : Heap} {K : KC} : WC M (.seq a b) e h K = WC M a e h (SeqK M b K) := by
  refine propext (WC_eq.trans ⟨?_, ?_⟩)
  · rintro ⟨x, e', h', hh, hk⟩
    have hh : thenC M.ev b (M.ev.c a e h) = some (x, e', h') := hh
    cases hq : M.ev.c a e h with
    | none => rw [hq] at hh; cases hh
    | some p =>
      rw [hq] at hh
      obtain ⟨q, e1, h1⟩ := p
      refine ⟨q, e1, h1, hq, ?_⟩
      cases q with
      | normal => exact ⟨x, e', h', hh, hk⟩
      | exit i => cases hh; exact hk
      | ret => cases hh; exact hk
  · rintro ⟨q, e1, h1, hq, hk⟩
    show ∃ x e' h', thenC M.ev b (M.ev.c a e h) = some (x, e', h') ∧ K x e' h'
    rw [hq]
    cases q with
    | normal => exact hk
    | exit i => exact ⟨_, _, _, rfl, hk⟩
    | ret => exact ⟨_, _, _, rfl, hk⟩
theorem WC_block {id : Nat} {a : AC} {e : Env} {h : Heap} {K : KC} : WC M (.block id a) e h K = WC M a e h (BlockK id K) := by
  refine propext (WC_eq.trans ⟨?_, ?_⟩)
  · rintro ⟨x, e', h', hh, hk⟩
    have hh : blockC id (M.ev.c a e h) = some (x, e', h') := hh
    cases hq : M.ev.c a e h with
    | none => rw [hq] at hh; cases hh
    | some p =>
      rw [hq] at hh
      obtain ⟨q, e1, h1⟩ := p
      refine ⟨q, e1, h1, hq, ?_⟩
      cases q with
      | normal => cases hh; exact hk
      | exit i =>
        have hh : (bif Nat.beq i id then some (Ex.normal, e1, h1) else some (Ex.exit i, e1, h1)) = some (x, e', h') := hh
        show if i = id then K .normal e1 h1 else K (.exit i) e1 h1
        by_cases hi : i = id
        · subst hi; rw [Nat.beq_refl] at hh; cases hh; rw [if_pos rfl]; exact hk
        · rw [show Nat.beq i id = false from by cases hb : Nat.beq i id with | false => rfl | true => exact absurd (Nat.eq_of_beq_eq_true hb) hi] at hh; cases hh; rw [if_neg hi]; exact hk
      | ret => cases hh; exact hk
  · rintro ⟨q, e1, h1, hq, hk⟩
    show ∃ x e' h', blockC id (M.ev.c a e h) = some (x, e', h') ∧ K x e' h'
    rw [hq]
    cases q with
    | normal => exact ⟨_, _, _, rfl, hk⟩
    | exit i =>
      have hk : if i = id then K .normal e1 h1 else K (.exit i) e1 h1 := hk
      show ∃ x e' h', (bif Nat.beq i id then some (Ex.normal, e1, h1) else some (Ex.exit i, e1, h1)) = some (x, e', h') ∧ K x e' h'
      by_cases hi : i = id
      · subst hi; rw [Nat.beq_refl]; rw [if_pos rfl] at hk; exact ⟨_, _, _, rfl, hk⟩
      · rw [show Nat.beq i id = false from by cases hb : Nat.beq i id with | false => rfl | true => exact absurd (Nat.eq_of_beq_eq_true hb) hi]; rw [if_neg hi] at hk; exact ⟨_, _, _, rfl, hk⟩
    | ret => exact ⟨_, _, _, rfl, hk⟩
theorem WC_cond {c : Opd} {a b : AC} {e : Env} {h : Heap} {K : KC} : WC M (.cond c a b) e h K = WCond M (c.v e) a b e h K := by
  refine propext (WC_eq.trans ⟨?_, ?_⟩)
  · rintro ⟨x, e', h', hh, hk⟩
    have hh : condC (c.v e) M.ev a b e h = some (x, e', h') := hh
    generalize c.v e = u at hh
    cases u with
    | bool t => exact ⟨t, rfl, x, e', h', by cases t <;> exact hh, hk⟩
    | _ => cases hh
  · rintro ⟨t, ht, x, e', h', hh, hk⟩
    refine ⟨x, e', h', ?_, hk⟩
    show condC (c.v e) M.ev a b e h = some (x, e', h')
    rw [ht]
    cases t <;> exact hh

theorem WCond_true {a b : AC} {e : Env} {h : Heap} {K : KC} : WCond M (.bool true) a b e h K = WC M a e h K :=
  propext ⟨fun ⟨t, ht, hk⟩ => by cases ht; exact hk, fun hk => ⟨true, rfl, hk⟩⟩
theorem WCond_false {a b : AC} {e : Env} {h : Heap} {K : KC} : WCond M (.bool false) a b e h K = WC M b e h K :=
  propext ⟨fun ⟨t, ht, hk⟩ => by cases ht; exact hk, fun hk => ⟨false, rfl, hk⟩⟩
theorem WCond_split {t : Bool} {a b : AC} {e : Env} {h : Heap} {K : KC} (h1 : t = true → WC M a e h K) (h2 : t = false → WC M b e h K) : WCond M (.bool t) a b e h K :=
  ⟨t, rfl, by cases t with | false => exact h2 rfl | true => exact h1 rfl⟩
theorem WCond_dec {p : Prop} [Decidable p] {a b : AC} {e : Env} {h : Heap} {K : KC} (h1 : p → WC M a e h K) (h2 : ¬ p → WC M b e h K) : WCond M (.bool (decide p)) a b e h K :=
  WCond_split (fun h => h1 (of_decide_eq_true h)) (fun h => h2 (of_decide_eq_false h))
theorem WCond_ndec {p : Prop} [Decidable p] {a b : AC} {e : Env} {h : Heap} {K : KC} (h1 : ¬ p → WC M a e h K) (h2 : p → WC M b e h K) : WCond M (.bool (!decide p)) a b e h K :=
  WCond_split (fun h => h1 (by simpa using h)) (fun h => h2 (by simpa using h))

theorem SeqK_normal {b : AC} {K : KC} {e : Env} {h : Heap} : SeqK M b K .normal e h = WC M b e h K := rfl
theorem SeqK_exit {b : AC} {K : KC} {i : Nat} {e : Env} {h : Heap} : SeqK M b K (.exit i) e h = K (.exit i) e h := rfl
theorem SeqK_ret {b : AC} {K : KC} {e : Env} {h : Heap} : SeqK M b K .ret e h = K .ret e h := rfl
theorem BlockK_normal {id : Nat} {K : KC} {e : Env} {h : Heap} : BlockK id K .normal e h = K .normal e h := rfl
theorem BlockK_exit {id : Nat} {K : KC} {i : Nat} {e : Env} {h : Heap} : BlockK id K (.exit i) e h = if i = id then K .normal e h else K (.exit i) e h := rfl
theorem BlockK_ret {id : Nat} {K : KC} {e : Env} {h : Heap} : BlockK id K .ret e h = K .ret e h := rfl
theorem LoopK_normal {I : Nat → Env → Heap → Prop} {m : Nat} {K : KC} {e : Env} {h : Heap} : LoopK M I m K .normal e h = ∃ m', m' < m ∧ I m' e h := rfl
theorem LoopK_exit {I : Nat → Env → Heap → Prop} {m : Nat} {K : KC} {i : Nat} {e : Env} {h : Heap} : LoopK M I m K (.exit i) e h = K (.exit i) e h := rfl
theorem LoopK_ret {I : Nat → Env → Heap → Prop} {m : Nat} {K : KC} {e : Env} {h : Heap} : LoopK M I m K .ret e h = K .ret e h := rfl
theorem FunK_normal {rs : List (Nat × Option (Option Nat))} {K : KF} {e : Env} {h : Heap} : FunK rs K .normal e h = ∃ v, resV e h rs = some v ∧ K v h := rfl
theorem FunK_ret {rs : List (Nat × Option (Option Nat))} {K : KF} {e : Env} {h : Heap} : FunK rs K .ret e h = ∃ v, resV e h rs = some v ∧ K v h := rfl
theorem resV_one {e : Env} {h : Heap} {t : Nat} : resV e h [(t, none)] = some (e.g t) := rfl
theorem resV_two {e : Env} {h : Heap} {t u : Nat} : resV e h [(t, none), (u, none)] = some (.tuple ⟨[e.g t, e.g u]⟩) := rfl
theorem resV_three {e : Env} {h : Heap} {t u v : Nat} : resV e h [(t, none), (u, none), (v, none)] = some (.tuple ⟨[e.g t, e.g u, e.g v]⟩) := rfl
theorem resV_none {e : Env} {h : Heap} : resV e h [] = some (.tuple ⟨[]⟩) := rfl
theorem FunK_one {x : Value} {K : KF} {h : Heap} : (∃ v, some x = some v ∧ K v h) = K x h :=
  propext ⟨fun ⟨v, hv, hk⟩ => by cases hv; exact hk, fun hk => ⟨x, rfl, hk⟩⟩

theorem WC_mono {c : AC} {e : Env} {h : Heap} {K K' : KC} (hw : WC M c e h K) (hk : ∀ x e' h', K x e' h' → K' x e' h') : WC M c e h K' := by
  obtain ⟨x, e', h', h1, h2⟩ := hw
  exact ⟨x, e', h', h1, hk _ _ _ h2⟩
theorem WF_mono {f : Nat} {args : List Value} {h : Heap} {K K' : KF} (hw : WF M f args h K) (hk : ∀ v h', K v h' → K' v h') : WF M f args h K' := by
  obtain ⟨v, h', h1, h2⟩ := hw
  exact ⟨v, h', h1, hk _ _ h2⟩
/-- What holds behind a piece of code, where it ends as usual. -/
theorem WC_mid {c : AC} {e : Env} {h : Heap} {K : KC} (J : Env → Heap → Prop) (hw : WC M c e h (fun x e' h' => match x with | .normal => J e' h' | x => K x e' h')) (hk : ∀ e' h', J e' h' → K .normal e' h') : WC M c e h K := by
  refine WC_mono hw fun x e' h' hx => ?_
  cases x with
  | normal => exact hk e' h' hx
  | exit i => exact hx
  | ret => exact hx
def MidK (J : Env → Heap → Prop) (K : KC) : KC := fun x e h => match x with
  | .normal => J e h
  | x => K x e h
theorem MidK_normal {J : Env → Heap → Prop} {K : KC} {e : Env} {h : Heap} : MidK J K .normal e h = J e h := rfl
theorem MidK_exit {J : Env → Heap → Prop} {K : KC} {i : Nat} {e : Env} {h : Heap} : MidK J K (.exit i) e h = K (.exit i) e h := rfl
theorem MidK_ret {J : Env → Heap → Prop} {K : KC} {e : Env} {h : Heap} : MidK J K .ret e h = K .ret e h := rfl
theorem WC_seq_mid {a b : AC} {e : Env} {h : Heap} {K : KC} (J : Env → Heap → Prop) (h1 : WC M a e h (MidK J K)) (h2 : ∀ e' h', J e' h' → WC M b e' h' K) : WC M (.seq a b) e h K := by
  rw [WC_seq]
  refine WC_mono h1 fun x e' h' hx => ?_
  cases x with
  | normal => exact h2 e' h' hx
  | exit i => exact hx
  | ret => exact hx

/-- A loop: its invariant, with what falls. -/
theorem WC_loop {a : AC} {e : Env} {h : Heap} {K : KC} (I : Nat → Env → Heap → Prop) (m : Nat) (h0 : I m e h) (step : ∀ m e h, I m e h → WC M a e h (LoopK M I m K)) : WC M (.loop a) e h K := by
  induction m using Nat.strongRecOn generalizing e h with
  | _ m ih =>
    have hw := step m e h h0
    rw [WC_eq]
    show ∃ x e' h', thenC M.ev (.loop a) (M.ev.c a e h) = some (x, e', h') ∧ K x e' h'
    obtain ⟨x, e1, h1, hq, hk⟩ := hw
    rw [hq]
    cases x with
    | normal =>
      obtain ⟨m', hm, hi⟩ := hk
      exact ih m' hm hi
    | exit i => exact ⟨_, _, _, rfl, hk⟩
    | ret => exact ⟨_, _, _, rfl, hk⟩

/-- Functions. -/
theorem WF_eq {f : Nat} {args : List Value} {h : Heap} {K : KF} {af : AF} (hO : M.O f = none) (hF : M.F f = some af) : WF M f args h K = WC M af.body (envOf args 0 .nil) h (FunK af.results K) := by
  unfold WF
  have : M.ev.f f args h = stepF M.F M.ev f args h := by
    show (evL M.F M.O).f f args h = _
    rw [evL_f_eq, hO]; rfl
  rw [this]
  unfold stepF
  rw [hF]
  show (∃ v h', fEnd af.results (M.ev.c af.body (envOf args 0 .nil) h) = some (v, h') ∧ K v h') = _
  unfold WC
  refine propext ⟨?_, ?_⟩
  · rintro ⟨v, h', hh, hk⟩
    cases hq : M.ev.c af.body (envOf args 0 .nil) h with
    | none => rw [hq] at hh; cases hh
    | some p =>
      rw [hq] at hh
      obtain ⟨q, e1, h1⟩ := p
      refine ⟨q, e1, h1, rfl, ?_⟩
      cases q with
      | normal =>
        have hh : ret h1 (resV e1 h1 af.results) = some (v, h') := hh
        cases hr : resV e1 h1 af.results with
        | none => rw [hr] at hh; cases hh
        | some u => rw [hr] at hh; cases hh; exact ⟨_, hr, hk⟩
      | exit i => cases hh
      | ret =>
        have hh : ret h1 (resV e1 h1 af.results) = some (v, h') := hh
        cases hr : resV e1 h1 af.results with
        | none => rw [hr] at hh; cases hh
        | some u => rw [hr] at hh; cases hh; exact ⟨_, hr, hk⟩
  · rintro ⟨q, e1, h1, hq, hk⟩
    rw [hq]
    cases q with
    | normal =>
      obtain ⟨u, hr, hk⟩ := hk
      refine ⟨u, h1, ?_, hk⟩
      show ret h1 (resV e1 h1 af.results) = _
      rw [hr]; rfl
    | exit i => exact hk.elim
    | ret =>
      obtain ⟨u, hr, hk⟩ := hk
      refine ⟨u, h1, ?_, hk⟩
      show ret h1 (resV e1 h1 af.results) = _
      rw [hr]; rfl
theorem WF_orc {f : Nat} {args : List Value} {h : Heap} {K : KF} {s : List Value → Heap → R} {v : Value} {h' : Heap} (hO : M.O f = some s) (hs : s args h = some (v, h')) (hk : K v h') : WF M f args h K := by
  refine ⟨v, h', ?_, hk⟩
  show (evL M.F M.O).f f args h = _
  rw [evL_f_eq, hO]
  exact hs
theorem wenvOf_nil {i : Nat} {e : Env} : envOf [] i e = e := rfl
theorem wenvOf_cons {v : Value} {l : List Value} {i : Nat} {e : Env} : envOf (v :: l) i e = envOf l (i + 1) (e.s i v) := rfl

end
end Go.Rx
