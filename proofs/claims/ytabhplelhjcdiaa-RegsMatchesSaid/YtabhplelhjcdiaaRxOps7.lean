/- Each operation of the abstract machine is the real one's: slices. -/
import Derived.Test.YtabhplelhjcdiaaRxOps6
import Derived.Laws.BytesString
/- Each operation of the abstract machine is the real one's: slices. -/
set_option linter.unusedVariables false
set_option linter.unusedSimpArgs false
namespace Go.Rx

variable {D : List Deferred}
variable {P : Program} {ρ : Ren} {H H' : Heap} {w : World} {e : Env} {a : Act} {nt : Nat} {v : Value}

/-! ### A string of bytes -/
theorem strOf_rel : ∀ {l l' : List Value} {s : List UInt8}, strOf l = some s → VRL ρ l l' → ∃ ns : List Int, l' = ns.map (Value.int .u8) ∧ s = ns.map fun n => UInt8.ofNat n.toNat
  | [], _, s, h, .nil => by cases h; exact ⟨[], rfl, rfl⟩
  | x :: l, _, s, h, .cons _ x' _ l' hx hl => by
    unfold strOf at h
    split at h
    · rename_i heq; cases heq
    · rename_i n r heq
      cases heq
      split at h
      · rename_i t ht
        cases h
        cases hx
        obtain ⟨ns, rfl, rfl⟩ := strOf_rel ht hl
        exact ⟨n :: ns, rfl, rfl⟩
      · cases h
    · cases h

theorem push_all : ∀ (ns : List Int) (s : ByteArray), ns.foldl (fun r n => r.push (UInt8.ofNat n.toNat)) s = ⟨⟨s.data.toList ++ ns.map fun n => UInt8.ofNat n.toNat⟩⟩
  | [], s => by
    apply ByteArray.ext
    apply Array.ext'
    simp
  | n :: ns, s => by
    rw [List.foldl_cons, push_all ns]
    apply ByteArray.ext
    apply Array.ext'
    simp [ByteArray.push]

theorem s_b2s (o : Oper) (ha : AR D ρ nt e a) (hs : Sim P ρ H w) {s d el : TypeId} {x : Operand} {x' : Opd} (ho : o.op = .convert s d x) (hx : Opd.of x = some x') (h0 : P.underlying s = some (.slice el)) (h1 : P.underlying d = some .string)
    (h2 : P.underlying el = some (.int .u8)) (hr : iB2s (x'.v e) H = some (v, H')) : Still P ρ H w H' v ((execOp a.eval o).run P w) := by
  have hv := opd hx ha
  generalize hxv : a.eval x = xv at hv
  generalize x'.v e = xa at hr hv
  cases hv with
  | slNil =>
    cases hr
    refine .still hs (v' := .string ⟨⟨[]⟩⟩) ?_ (.string _)
    simp only [execOp, ho, hxv]
    refine run_val ?_
    simp [convert, run_underlying h0, run_underlying h1, run_underlying h2, Conv.bytesToString]
    rfl
  | sl ad n c c' l hl hn hc hx fit =>
    simp only [iB2s] at hr
    split at hr
    · rename_i vs hrd
      split at hr
      · rename_i t ht
        cases hr
        obtain ⟨vs', hlen, hvr, hcell⟩ := hs.rd hl hrd
        have hld := run_loadCells_list (P := P) w _ vs' hcell
        rw [hlen] at hld
        obtain ⟨ns, rfl, rfl⟩ := strOf_rel ht hvr
        have hb := run_bytesToString w _ n c' ns hld
        rw [push_all] at hb
        refine .still hs ?_ (.string _)
        simp only [execOp, ho, hxv]
        refine run_val ?_
        simp [convert, run_underlying h0, run_underlying h1, run_underlying h2, hb]
      · cases hr
    · cases hr
  | sl0 ad b =>
    simp only [iB2s] at hr
    split at hr
    · rename_i vs hrd
      split at hr
      · rename_i t ht
        cases hr
        obtain ⟨cs, ce, rw', hbk, hcut⟩ := rdB_some hrd
        obtain ⟨_, _, hlen, _⟩ := cut_some hcut
        have : vs = [] := List.length_eq_zero_iff.1 hlen
        subst this
        cases ht
        have hb0 := run_bytesToString w b 0 0 [] (by simpa using run_loadCells_list (P := P) w b [] (by simp))
        rw [push_all] at hb0
        refine .still hs ?_ (.string _)
        simp only [execOp, ho, hxv]
        refine run_val ?_
        simp [convert, run_underlying h0, run_underlying h1, run_underlying h2, hb0]
      · cases hr
    · cases hr
  | _ => cases hr

/-! ### The bounds -/
inductive VRO (ρ : Ren) : Option Value → Option Value → Prop
  | none : VRO ρ none none
  | some (v v' : Value) (h : VR ρ v v') : VRO ρ (some v) (some v')

theorem opdO_rel {x : Option Operand} {y : Option Opd} (h : opdO x = some y) (ha : AR D ρ nt e a) : VRO ρ (vO e y) (x.map a.eval) := by
  cases x with
  | none => cases h; exact .none
  | some x =>
    simp only [opdO] at h
    cases hx : Opd.of x with
    | none => rw [hx] at h; cases h
    | some z => rw [hx] at h; cases h; exact .some _ _ (opd hx ha)

theorem bound_run {x x' : Value} {y y' n d : Nat} (h : bound (some x) y d = some n) (hx : VR ρ x x') (hy : y ≤ y') (code : BoundsCode) (w : World) : (Instr.sliceBound x' y' code).run P w = .ok n w ∧ n ≤ y := by
  unfold bound at h
  split at h
  · rename_i heq; cases heq
  · rename_i heq
    cases heq
    obtain ⟨rfl, hlt⟩ := ix_some h
    cases hx
    refine ⟨?_, by omega⟩
    have h3 : n ≤ y' := by omega
    simp [Instr.sliceBound, asIntOf, h3]
  · cases h
def capM (mx : Option Value) (c m : Nat) : Nat := match mx with
  | none => c
  | some _ => m

theorem bounds_run {len cap cap' : Nat} {lo hi mx lo' hi' mx' : Option Value} {l k m : Nat} (h : bounds len cap lo hi mx = some (l, k, m)) (hlo : VRO ρ lo lo') (hhi : VRO ρ hi hi') (hmx : VRO ρ mx mx') (hc : cap ≤ cap')
    (hno : mx ≠ none → hi ≠ none) (isSlice : Bool) (w : World) :
    (Instr.sliceBounds isSlice len cap' lo' hi' mx').run P w = .ok (l, k, capM mx cap' m) w ∧ m ≤ cap ∧ (mx = none → m = cap) := by
  unfold bounds at h
  split at h
  · cases h
  · rename_i m' hm
    split at h
    · cases h
    · rename_i k' hk
      split at h
      · cases h
      · rename_i l' hl
        cases h
        cases hmx with
        | none =>
          cases hm
          cases hhi with
          | none =>
            cases hk
            cases hlo with
            | none => cases hl; simp [Instr.sliceBounds, capM]
            | some x x' hx =>
              obtain ⟨h1, _⟩ := bound_run (P := P) (y' := len) hl hx (Nat.le_refl _) .sliceB w
              simp [Instr.sliceBounds, capM, h1]
          | some y y' hy =>
            obtain ⟨h2, _⟩ := bound_run (P := P) (y' := cap') hk hy hc (if isSlice then .sliceAcap else .sliceAlen) w
            cases hlo with
            | none => cases hl; simp [Instr.sliceBounds, capM, h2]
            | some x x' hx =>
              obtain ⟨h1, _⟩ := bound_run (P := P) (y' := k) hl hx (Nat.le_refl _) .sliceB w
              simp [Instr.sliceBounds, capM, h1, h2]
        | some z z' hz =>
          obtain ⟨h3, h4⟩ := bound_run (P := P) (y' := cap') hm hz hc (if isSlice then .slice3Acap else .slice3Alen) w
          cases hhi with
          | none => exact absurd rfl (hno (by simp))
          | some y y' hy =>
            obtain ⟨h2, _⟩ := bound_run (P := P) (y' := m) hk hy (Nat.le_refl _) .slice3B w
            cases hlo with
            | none => cases hl; simp [Instr.sliceBounds, capM, h2, h3, h4]
            | some x x' hx =>
              obtain ⟨h1, _⟩ := bound_run (P := P) (y' := k) hl hx (Nat.le_refl _) .slice3C w
              simp [Instr.sliceBounds, capM, h1, h2, h3, h4]

theorem vO_none {x : Option Opd} : vO e x = none ↔ x = none := by cases x <;> simp [vO]

theorem s_slc (o : Oper) (ha : AR D ρ nt e a) (hs : Sim P ρ H w) {t el : TypeId} {sz : Nat} {x : Operand} {x' : Opd} {lo hi mx : Option Operand} {lo' hi' mx' : Option Opd} (ho : o.op = .slice t x lo hi mx) (hx : Opd.of x = some x')
    (hlo : opdO lo = some lo') (hhi : opdO hi = some hi') (hmx : opdO mx = some mx') (hno : mx' ≠ none → hi' ≠ none)
    (ht : P.underlying t = some (.slice el)) (hsz : sizeO P el = some sz)
    (hr : ret H (sliceV H el sz (x'.v e) (vO e lo') (vO e hi') (vO e mx')) = some (v, H')) : Still P ρ H w H' v ((execOp a.eval o).run P w) := by
  obtain ⟨h, rfl⟩ := ret_some hr
  have h1 := opd hx ha
  have r1 := opdO_rel hlo ha
  have r2 := opdO_rel hhi ha
  have r3 := opdO_rel hmx ha
  have hno' : vO e mx' ≠ none → vO e hi' ≠ none := fun h h' => hno (fun e => h (vO_none.2 e)) (vO_none.1 h')
  generalize hxv : a.eval x = xv at h1
  generalize x'.v e = xa at h h1
  generalize vO e lo' = lov at *
  generalize vO e hi' = hiv at *
  generalize vO e mx' = mxv at *
  unfold sliceV at h
  split at h
  · split at h
    · rename_i hb
      cases h
      cases h1 with
      | slNil =>
        obtain ⟨hrun, _, hm⟩ := bounds_run (P := P) hb r1 r2 r3 (Nat.le_refl 0) hno' true w
        refine .still hs ?_ .slNil
        simp only [execOp, ho, hxv]
        refine run_val ?_
        cases mxv <;> simp [Instr.sliceAt, Instr.slice, run_underlying ht, hrun, run_sizeOf hsz, capM]
    · cases h
  · rename_i ad len cap
    split at h
    · rename_i l k m hb
      obtain ⟨hck, h⟩ := bifS h
      cases h
      simp only [Bool.and_eq_true, Nat.ble_eq] at hck
      obtain ⟨⟨hlk, hkm⟩, hse⟩ := hck
      cases h1 with
      | sl _ _ _ c' lc hl hn hc hx fit =>
        obtain ⟨hrun, hmc, hmn⟩ := bounds_run (P := P) hb r1 r2 r3 hc hno' true w
        cases mxv with
        | none =>
          obtain rfl := hmn rfl
          simp only [capM] at hrun
          by_cases hml : c' = l
          · -- nothing is left: the address stays
            have hm0 : m - l = 0 := by omega
            have hk0 : k - l = 0 := by omega
            rw [hm0, hk0]
            refine .still hs (v' := .slice (some ⟨lc.blk, lc.base + ad.off, none⟩) 0 0) ?_ (.sl0 _ _)
            simp only [execOp, ho, hxv]
            refine run_val ?_
            have hk1 : k - c' = 0 := by omega
            simp [Instr.sliceAt, Instr.slice, run_underlying ht, hrun, run_sizeOf hsz, ← hml, hk1]
          · refine .still hs (v' := .slice (some ⟨lc.blk, lc.base + (ad.off + l * sz), none⟩) (k - l) (c' - l)) ?_ (.sl ⟨ad.block, ad.off + l * sz, ad.spot⟩ _ _ _ lc hl (by omega) (by omega) (fun h => by rw [hx h]) ?_)
            · simp only [execOp, ho, hxv]
              refine run_val ?_
              simp [Instr.sliceAt, Instr.slice, run_underlying ht, hrun, run_sizeOf hsz, hml, Addr.add_place, Nat.add_assoc]
            · intro hsp
              have hsp' : ad.spot = none := hsp
              have hf := fit hsp'
              unfold sameE at hse
              rw [hsp'] at hse
              simp only at hse
              split at hse
              · rename_i cs e' rw' hbk
                obtain ⟨_, _, _, _, _, hesz, _⟩ := hs.blks _ _ _ hl hbk
                obtain rfl := Nat.eq_of_beq_eq_true hse
                rw [sizeO_cellsOf hsz] at hesz
                rw [← hesz] at hf ⊢
                have : (c' - l) * sz + l * sz = c' * sz := by rw [← Nat.add_mul]; congr 1; omega
                show lc.base + (ad.off + l * sz) + (c' - l) * sz ≤ lc.total
                omega
              · cases hse
        | some z =>
          simp only [capM] at hrun
          by_cases hml : m = l
          · have hm0 : m - l = 0 := by omega
            have hk0 : k - l = 0 := by omega
            rw [hm0, hk0]
            refine .still hs (v' := .slice (some ⟨lc.blk, lc.base + ad.off, none⟩) 0 0) ?_ (.sl0 _ _)
            simp only [execOp, ho, hxv]
            refine run_val ?_
            simp [Instr.sliceAt, Instr.slice, run_underlying ht, hrun, run_sizeOf hsz, hml]
            omega
          · refine .still hs (v' := .slice (some ⟨lc.blk, lc.base + (ad.off + l * sz), none⟩) (k - l) (m - l)) ?_ (.sl ⟨ad.block, ad.off + l * sz, some 0⟩ _ _ _ lc hl (by omega) (by omega) (fun h => rfl) (fun h => by cases h))
            simp only [execOp, ho, hxv]
            refine run_val ?_
            simp [Instr.sliceAt, Instr.slice, run_underlying ht, hrun, run_sizeOf hsz, hml, Addr.add_place, Nat.add_assoc]
      | sl0 _ b =>
        obtain ⟨hrun, hmc, hmn⟩ := bounds_run (P := P) hb r1 r2 r3 (Nat.le_refl 0) hno' true w
        have hm0 : m = 0 := by omega
        have hl0 : l = 0 := by omega
        have hk0 : k = 0 := by omega
        subst hm0; subst hl0; subst hk0
        refine .still hs (v' := .slice (some b) 0 0) ?_ (.sl0 _ _)
        simp only [execOp, ho, hxv]
        refine run_val ?_
        cases mxv <;> simp [Instr.sliceAt, Instr.slice, run_underlying ht, hrun, run_sizeOf hsz, capM]
    · cases h
  · cases h

theorem s_sls (o : Oper) (ha : AR D ρ nt e a) (hs : Sim P ρ H w) {t : TypeId} {x : Operand} {x' : Opd} {lo hi : Option Operand} {lo' hi' : Option Opd} (ho : o.op = .slice t x lo hi none) (hx : Opd.of x = some x')
    (hlo : opdO lo = some lo') (hhi : opdO hi = some hi') (ht : P.underlying t = some .string)
    (hr : ret H (sliceS (x'.v e) (vO e lo') (vO e hi')) = some (v, H')) : Still P ρ H w H' v ((execOp a.eval o).run P w) := by
  obtain ⟨h, rfl⟩ := ret_some hr
  have h1 := opd hx ha
  have r1 := opdO_rel hlo ha
  have r2 := opdO_rel hhi ha
  generalize hxv : a.eval x = xv at h1
  generalize x'.v e = xa at h h1
  generalize vO e lo' = lov at *
  generalize vO e hi' = hiv at *
  unfold sliceS at h
  split at h
  · rename_i s
    split at h
    · rename_i l k m hb
      cases h
      cases h1 with
      | string =>
        have hlen : s.size = s.data.toList.length := by rw [Array.length_toList]; rfl
        obtain ⟨hrun, _, _⟩ := bounds_run (P := P) hb r1 r2 .none (Nat.le_refl _) (fun h => absurd rfl h) false w
        simp only [capM] at hrun
        rw [← hlen] at hrun
        have hext : s.extract l k = ⟨⟨(s.data.toList.drop l).take (k - l)⟩⟩ := by
          apply ByteArray.ext
          rw [ByteArray.data_extract]
          apply Array.ext'
          rw [Array.toList_extract]
        refine .still hs ?_ (.string _)
        simp only [execOp, ho, hxv]
        refine run_val ?_
        simp [Instr.sliceAt, Instr.slice, run_underlying ht, hrun, hext]
    · cases h
  · cases h

theorem s_sla (o : Oper) (ha : AR D ρ nt e a) (hs : Sim P ρ H w) {t el : TypeId} {n sz : Nat} {x : Operand} {x' : Opd} {lo hi mx : Option Operand} {lo' hi' mx' : Option Opd} (ho : o.op = .slice t x lo hi mx) (hx : Opd.of x = some x')
    (hlo : opdO lo = some lo') (hhi : opdO hi = some hi') (hmx : opdO mx = some mx') (hno : mx' ≠ none → hi' ≠ none)
    (ht : P.underlying t = some (.array n el)) (hsz : sizeO P el = some sz)
    (hr : ret H (sliceA n sz (x'.v e) (vO e lo') (vO e hi') (vO e mx')) = some (v, H')) : Still P ρ H w H' v ((execOp a.eval o).run P w) := by
  obtain ⟨h, rfl⟩ := ret_some hr
  have h1 := opd hx ha
  have r1 := opdO_rel hlo ha
  have r2 := opdO_rel hhi ha
  have r3 := opdO_rel hmx ha
  have hno' : vO e mx' ≠ none → vO e hi' ≠ none := fun h h' => hno (fun e => h (vO_none.2 e)) (vO_none.1 h')
  generalize hxv : a.eval x = xv at h1
  generalize x'.v e = xa at h h1
  generalize vO e lo' = lov at *
  generalize vO e hi' = hiv at *
  generalize vO e mx' = mxv at *
  unfold sliceA at h
  split at h
  · rename_i ad
    split at h
    · rename_i l k m hb
      obtain ⟨hck, h⟩ := bifS h
      cases h
      simp only [Bool.and_eq_true, Nat.ble_eq] at hck
      obtain ⟨hlk, hkm⟩ := hck
      cases h1 with
      | ptr _ lc hl hsp =>
        obtain ⟨hrun, hmc, hmn⟩ := bounds_run (P := P) hb r1 r2 r3 (Nat.le_refl _) hno' false w
        have hrun' : (Instr.sliceBounds false n n (lo.map a.eval) (hi.map a.eval) (mx.map a.eval)).run P w = .ok (l, k, m) w := by
          rw [hrun]
          cases mxv with
          | none => rw [hmn rfl]; rfl
          | some z => rfl
        by_cases hml : m = l
        · have hm0 : m - l = 0 := by omega
          have hk0 : k - l = 0 := by omega
          rw [hm0, hk0]
          refine .still hs (v' := .slice (some ⟨lc.blk, lc.base + ad.off, none⟩) 0 0) ?_ (.sl0 _ _)
          simp only [execOp, ho, hxv]
          refine run_val ?_
          have hk1 : k - m = 0 := by omega
          simp [Instr.sliceAt, Instr.sureAddr, run_underlying ht, hrun', run_sizeOf hsz, ← hml, hk1]
        · refine .still hs (v' := .slice (some ⟨lc.blk, lc.base + (ad.off + l * sz), none⟩) (k - l) (m - l)) ?_ (.sl ⟨ad.block, ad.off + l * sz, some 0⟩ _ _ _ lc hl (by omega) (by omega) (fun h => rfl) (fun h => by cases h))
          simp only [execOp, ho, hxv]
          refine run_val ?_
          simp [Instr.sliceAt, Instr.sureAddr, run_underlying ht, hrun', run_sizeOf hsz, hml, Addr.add_place, Nat.add_assoc]
    · cases h
  · cases h

end Go.Rx
