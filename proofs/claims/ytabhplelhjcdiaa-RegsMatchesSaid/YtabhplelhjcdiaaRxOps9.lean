/- Each operation of the abstract machine is the real one's: append, copy. -/
import Derived.Test.YtabhplelhjcdiaaRxOps8
/- Each operation of the abstract machine is the real one's: append, copy. -/
set_option linter.unusedVariables false
set_option linter.unusedSimpArgs false
namespace Go.Rx

variable {D : List Deferred}
variable {P : Program} {ρ : Ren} {H H' : Heap} {w : World} {e : Env} {a : Act} {nt : Nat} {v : Value}

theorem bytesOf_eq (s : ByteArray) : bytesOf s = byteCells s := rfl
theorem bytes_ground (s : ByteArray) : (bytesOf s).all groundV = true := by
  rw [List.all_eq_true]
  intro x hx
  obtain ⟨b, _, rfl⟩ := List.mem_map.1 hx
  rfl

/-- What is appended, in both machines. -/
theorem src_rel (hs : Sim P ρ H w) {sz m : Nat} {y y' : Value} {new : List Value} {tx : TypeId} (hk : (∃ e', P.underlying tx = some (.slice e')) ∨ (P.underlying tx = some .string))
    (h : appNew H sz y = some (new, m)) (hy : VR ρ y y') : ∃ new', Src P sz tx y' m new' w ∧ VRL ρ new new' := by
  unfold appNew at h
  split at h
  · cases h
    cases hy with
    | slNil => exact ⟨[], ⟨hk, fun _ => rfl, run_firstCells_none w sz 0 0 0, run_firstCells_none w.drew sz 0 0 0, by simp, fun _ h => by cases h⟩, .nil⟩
  · rename_i ad m' c
    split at h
    · rename_i l hrd
      obtain ⟨hone, h⟩ := bifS h
      cases h
      cases hy with
      | sl _ _ _ c' lc hl hn hc hx fit =>
        obtain ⟨vs', hlen, hvr, hcell⟩ := hs.rd hl hrd
        exact ⟨vs', ⟨hk, fun _ => rfl, run_firstCells_some w sz m _ m c' vs' hlen hcell, run_firstCells_some w.drew sz m _ m c' vs' hlen (by simpa using hcell), hlen, allOne_rel hone hvr⟩, hvr⟩
      | sl0 _ b =>
        obtain ⟨cs, ce, rw', hbk, hcut⟩ := rdB_some hrd
        obtain ⟨_, _, hlen, _⟩ := cut_some hcut
        have h0 : new = [] := List.length_eq_zero_iff.1 (by simpa using hlen)
        subst h0
        exact ⟨[], ⟨hk, fun _ => rfl, run_firstCells_some w sz 0 b 0 0 [] (by simp) (by simp), run_firstCells_some w.drew sz 0 b 0 0 [] (by simp) (by simp), by simp, fun _ h => by cases h⟩, .nil⟩
    · cases h
  · rename_i s
    obtain ⟨h1, h⟩ := bifS h
    obtain rfl := Nat.eq_of_beq_eq_true h1
    cases h
    cases hy
    have hlen : s.data.toList.length = s.size := by rw [Array.length_toList]; rfl
    rw [hlen]
    refine ⟨byteCells s, ⟨hk, fun _ => rfl, firstCells_string s w, firstCells_string s w.drew, by rw [byteCells_length, Nat.mul_one], fun u hu => ?_⟩, VRL.ground (bytes_ground s)⟩
    obtain ⟨_, _, rfl⟩ := List.mem_map.1 hu
    rfl
  · cases h

theorem run_append_nothing (t tx ty el : TypeId) (i : TypeInfo) (ht : P.underlying t = some (.slice el)) (hi : P.info? el = some i) (x : Value) (news : List Value) (hs : Src P i.size tx x 0 news w) :
    (Builtin.append_ #[t, tx] ty #[.slice none 0 0, x]).run P w = .ok (.slice none 0 0) w := by
  rcases hs.kind with ⟨e', hk⟩ | hk <;> simp [Builtin.append_, run_underlying ht, run_underlying hk, sizeOf, typeInfo, hi, hs.len, hs.cells]

theorem run_append_room_st (t tx ty el : TypeId) (i : TypeInfo) (ht : P.underlying t = some (.slice el)) (hi : P.info? el = some i) (b : Addr) (sLen sCap : Nat) (x : Value) (n : Nat) (news : List Value) (hs : Src P i.size tx x n news w)
    (hroom : sLen + n ≤ sCap) {w' : World} (hst : (storeCells (b.add (sLen * i.size)) news).run P w = .ok () w') :
    (Builtin.append_ #[t, tx] ty #[.slice (some b) sLen sCap, x]).run P w = .ok (.slice (some b) (sLen + n) sCap) w' := by
  rcases hs.kind with ⟨e', hk⟩ | hk <;> simp [Builtin.append_, run_underlying ht, run_underlying hk, sizeOf, typeInfo, hi, hs.len, hroom, hs.cells, hst]

theorem drewSim (hs : Sim P ρ H w) : Sim P ρ H w.drew := hs.drawn _
theorem drewStp : Stp ρ H w ρ H w.drew := Stp.drawn _ _ _ _

/-- The real append makes a new row. -/
theorem Good.grown {H1 : Heap} (hs : Sim P ρ H1 w) (hstp : Stp ρ H w ρ H1 w) {el : TypeId} {cs cs' : List Value} {z : Array Value} {need old sz : Nat} {s : Sem Next} (hrel : VRL ρ cs cs') (hsz : P.cellsOf el = sz) (hzs : z.size = sz) (hlen : cs'.length = need * sz)
    (hrun : s.run P w = .ok (.value (.slice (some ⟨w.heap.size, 0, none⟩) need (grownCap w need old el))) (w.drew.alloc (.cells (cs'.toArray ++ Builtin.zeroCells z (grownCap w need old el - need)) el))) :
    Good P ρ H w (H1.new (.cells cs el true)) (.slice (some ⟨H1.next, 0, none⟩) need need) (s.run P w) := by
  have hge := grownCap_ge w need old el
  generalize grownCap w need old el = nc at *
  have hsim := drewSim hs
  have hst1 := hstp.trans (drewStp (H := H1))
  have hat : VRAt ρ cs (cs'.toArray ++ Builtin.zeroCells z (nc - need)) 0 := by
    have := hrel.at0 (Builtin.zeroCells z (nc - need)).toList
    have e1 : (cs' ++ (Builtin.zeroCells z (nc - need)).toList).toArray = cs'.toArray ++ Builtin.zeroCells z (nc - need) := by
      apply Array.ext'
      simp
    rwa [e1] at this
  obtain ⟨h1, h2⟩ := hsim.row cs el true _ el hat
  refine ⟨_, _, _, .inl hrun, ?_, h1, hst1.trans h2⟩
  have hsize : (cs'.toArray ++ Builtin.zeroCells z (nc - need)).size = nc * sz := by
    rw [Array.size_append, size_zeroCells, hzs]
    simp only [List.size_toArray, hlen]
    rw [← Nat.add_mul]
    congr 1
    omega
  have := VR.sl (ρ := ρ.up H1.next ⟨w.drew.heap.size, 0, (cs'.toArray ++ Builtin.zeroCells z (nc - need)).size, P.cellsOf el⟩) ⟨H1.next, 0, none⟩ need need nc _ (Ren.up_same _ _ _) (Nat.le_refl _) hge (fun h => absurd rfl h)
    (fun _ => by simp only [hsize, hsz]; omega)
  simpa using this

theorem appGrow_some {h : Heap} {el : TypeId} {ad : Addr} {need : Nat} {cs : List Value} {v : Value} (hr : appGrow h el ad need cs = some (v, H')) :
    v = .slice (some ⟨h.next, 0, none⟩) need need ∧ ((∃ s, ad.spot = some s) ∧ H' = h.new (.cells cs el true) ∨ ad.spot = none ∧ (∃ cs0, h.at ad.block = some (.cells cs0 el true)) ∧ H' = (h.set ad.block none).new (.cells cs el true)) := by
  unfold appGrow at hr
  split at hr
  · rename_i s hs
    cases hr
    exact ⟨rfl, .inl ⟨⟨s, hs⟩, rfl⟩⟩
  · rename_i hs
    split at hr
    · rename_i cs0 e' hb
      obtain ⟨he, hr'⟩ := bifS hr
      clear hr
      obtain rfl := Nat.eq_of_beq_eq_true he
      cases hr'
      exact ⟨rfl, .inr ⟨hs, ⟨cs0, hb⟩, rfl⟩⟩
    · cases hr

theorem s_app (o : Oper) (ha : AR D ρ nt e a) (hs : Sim P ρ H w) {t u el : TypeId} {sz : Nat} {zs : List Value} {c : Call} {x y : Operand} {x' y' : Opd} (ho : o.op = .call c) (hcl : c.callee = .builtin .append) (hargs : c.args.toList = [x, y]) (hats : c.argTypes.toList = [t, u])
    (hx : Opd.of x = some x') (hy : Opd.of y = some y')
    (ht : P.underlying t = some (.slice el)) (hk : (∃ e', P.underlying u = some (.slice e')) ∨ (P.underlying u = some .string)) (hsz : sizeO P el = some sz) (hz : zeroO P el = some zs) (hzs : zs.length = sz)
    (hr : appV H el sz (P.bytesOf el) (x'.v e) (y'.v e) = some (v, H')) : Good P ρ H w H' v ((execOp a.eval o).run P w) := by
  have h1 := opd hx ha
  have h2 := opd hy ha
  generalize hxv : a.eval x = xv at h1
  generalize hyv : a.eval y = yv at h2
  generalize x'.v e = xa at hr h1
  generalize y'.v e = ya at hr h2
  have hargs' : c.args = #[x, y] := Array.ext' hargs
  have hats' : c.argTypes = #[t, u] := Array.ext' hats
  have hexec : execOp a.eval o = (do pure (Next.value (← Builtin.append_ #[t, u] o.type #[xv, yv])) : Sem Next) := by
    simp [execOp, ho, resolve, hcl, invoke, builtin, hargs', hats', hxv, hyv]
  rw [hexec]
  obtain ⟨z, hz1, rfl⟩ := zeroO_info hz
  obtain ⟨i, hi, hiz, hg⟩ := zero1_info hz1
  have hcel := sizeO_cellsOf hsz
  have hsi : i.size = sz := by simpa [Program.cellsOf, hi] using hcel
  have hby : P.bytesOf el = i.bytes := by simp [Program.bytesOf, hi]
  have hzs' : z.cells.size = sz := by simpa using hzs
  rw [hby] at hr
  subst hsi
  unfold appV at hr
  split at hr
  · cases hr
  · rename_i new m hnew
    obtain ⟨new', hsrc, hnr⟩ := src_rel hs hk hnew h2
    have lim : ∀ need, Nat.ble (need * (i.bytes + 1)) limB = true → need * i.bytes ≤ 140737488355328 ∧ need ≤ 140737488355328 := by
      intro need hb
      simp only [Nat.ble_eq, limB] at hb
      rw [Nat.mul_add, Nat.mul_one] at hb
      omega
    split at hr
    · -- an empty one grows
      cases h1 with
      | slNil =>
        cases hm : Nat.beq m 0 with
        | true =>
          obtain rfl := Nat.eq_of_beq_eq_true hm
          rw [hm] at hr
          cases hr
          exact .still hs (run_val (run_append_nothing t u o.type el i ht hi yv new' hsrc)) .slNil
        | false =>
          rw [hm] at hr
          obtain ⟨hb, hr⟩ := bifS hr
          cases hr
          obtain ⟨hb1, hb2⟩ := lim _ hb
          have hm0 : 0 < m := Nat.pos_of_ne_zero fun h => by subst h; cases hm
          have hrun := run_append_grow_src w t u o.type el i z ht hi hiz none 0 0 [] (run_firstCells_none w.drew i.size 0 0 0) yv m new' hsrc (by omega) (by omega) (growslice_fits (by omega) (by simpa using hb1))
          simp only [Nat.zero_add, List.nil_append] at hrun
          exact Good.grown hs (.refl _ _ _) hnr hcel hzs' hsrc.newsLen (run_val hrun)
    · rename_i ad n c
      cases hroom : Nat.ble (n + m) c with
      | true =>
        rw [hroom] at hr
        simp only [cond_true] at hr
        simp only [Nat.ble_eq] at hroom
        cases hm : Nat.beq m 0 with
        | true =>
          obtain rfl := Nat.eq_of_beq_eq_true hm
          rw [hm] at hr
          cases hr
          have hn0 : new' = [] := List.length_eq_zero_iff.1 (by rw [hsrc.newsLen]; simp)
          subst hn0
          cases h1 with
          | sl _ _ _ c' lc hl hn hc hx fit =>
            exact .still hs (run_val (run_append_room_st t u o.type el i ht hi _ n c' yv 0 [] hsrc (by omega) rfl)) (.sl ad n c c' lc hl hn hc hx fit)
          | sl0 _ b => exact .still hs (run_val (run_append_room_st t u o.type el i ht hi b 0 0 yv 0 [] hsrc (by omega) rfl)) (.sl0 _ _)
        | false =>
          rw [hm] at hr
          simp only [cond_false] at hr
          split at hr
          · rename_i h' hw
            cases hr
            cases h1 with
            | sl _ _ _ c' lc hl hn hc hx fit =>
              obtain ⟨w', hst, hsim, hstp⟩ := hs.wr (ad := ⟨ad.block, ad.off + n * i.size, none⟩) hl hw hnr
              refine ⟨ρ, _, w', .inl (run_val (run_append_room_st t u o.type el i ht hi _ n c' yv m new' hsrc (by omega) (w' := w') ?_)), .sl ad (n + m) c c' lc hl hroom hc hx fit, hsim, hstp⟩
              rw [Addr.add_place, Nat.add_assoc]
              exact hst
            | sl0 _ b =>
              have : m = 0 := by omega
              subst this
              cases hm
          · cases hr
      | false =>
        rw [hroom] at hr
        simp only [cond_false] at hr
        obtain ⟨hb, hr⟩ := bifS hr
        obtain ⟨hb1, hb2⟩ := lim _ hb
        have hroom' : ¬ n + m ≤ c := fun h => by rw [Nat.ble_eq_true_of_le h] at hroom; cases hroom
        split at hr
        · cases hr
        · rename_i old hold
          obtain ⟨rfl, hcase⟩ := appGrow_some hr
          cases h1 with
          | sl _ _ _ c' lc hl hn hc hx fit =>
            obtain ⟨old', holen, holr, hocell⟩ := hs.rd hl hold
            have hgrow : c' < n + m → ∀ H1, H1.next = H.next → Sim P ρ H1 w → Stp ρ H w ρ H1 w → Good P ρ H w (H1.new (.cells (old ++ new) el true)) (.slice (some ⟨H.next, 0, none⟩) (n + m) (n + m))
                ((do pure (Next.value (← Builtin.append_ #[t, u] o.type #[.slice (some ⟨lc.blk, lc.base + ad.off, none⟩) n c', yv])) : Sem Next).run P w) := by
              intro hlt H1 hnx hsim hstp
              have hrun := run_append_grow_src w t u o.type el i z ht hi hiz (some ⟨lc.blk, lc.base + ad.off, none⟩) n c' old' (run_firstCells_some w.drew i.size n _ n c' old' holen (by simpa using hocell)) yv m new' hsrc hlt (by omega) (growslice_fits hlt hb1)
              have := Good.grown (H := H) hsim hstp (holr.append hnr) hcel hzs' (need := n + m) (by rw [List.length_append, holen, hsrc.newsLen, Nat.add_mul]) (run_val hrun)
              rwa [hnx] at this
            rcases hcase with ⟨⟨s, hsp⟩, rfl⟩ | ⟨hsp, ⟨cs0, hbk⟩, rfl⟩
            · have hcc := hx (by rw [hsp]; simp)
              subst hcc
              exact hgrow (by omega) H rfl hs (.refl _ _ _)
            · by_cases hlt : c' < n + m
              · obtain ⟨hk1, hk2⟩ := hs.kill ad.block
                exact hgrow hlt _ rfl hk1 hk2
              · -- the real row has room
                obtain ⟨ccs, cce, fr, hw, hsize, hesz, hfr, hat⟩ := hs.blks _ _ _ hl hbk
                obtain rfl := hfr rfl
                have hfit := fit hsp
                rw [hcel] at hesz
                rw [← hesz] at hfit
                have hle : (n + m) * i.size ≤ c' * i.size := Nat.mul_le_mul_right _ (by omega)
                have hle2 : n * i.size + new'.length ≤ c' * i.size := by rw [hsrc.newsLen, ← Nat.add_mul]; exact hle
                have hst := run_storeCells_at P lc.blk (lc.base + ad.off + n * i.size) cce new' 0 ccs w hw (by simp; omega) hsrc.one
                simp only [Nat.add_zero] at hst
                have hrun := run_append_room_st t u o.type el i ht hi ⟨lc.blk, lc.base + ad.off, none⟩ n c' yv m new' hsrc (by omega) (by rw [Addr.add_place]; exact hst)
                have hnewrow := setRow_heap w lc.blk ccs (ccs.toList.take (lc.base + ad.off + n * i.size) ++ new' ++ ccs.toList.drop (lc.base + ad.off + n * i.size + new'.length)).toArray cce (0, 0) hw
                have hread : ∀ j, (ccs.toList.take (lc.base + ad.off + n * i.size) ++ new' ++ ccs.toList.drop (lc.base + ad.off + n * i.size + new'.length)).toArray[j]? =
                    if j < lc.base + ad.off + n * i.size then ccs[j]? else if j < lc.base + ad.off + n * i.size + new'.length then new'[j - (lc.base + ad.off + n * i.size)]? else ccs[j]? := by
                  intro j
                  simp only [List.getElem?_toArray]
                  rw [List.append_assoc, List.getElem?_append]
                  simp only [List.length_take, Array.length_toList, Nat.min_eq_left (show lc.base + ad.off + n * i.size ≤ ccs.size by omega)]
                  by_cases h1 : j < lc.base + ad.off + n * i.size
                  · rw [if_pos h1, if_pos h1, List.getElem?_take, if_pos h1, Array.getElem?_toList]
                  · rw [if_neg h1, if_neg h1, List.getElem?_append]
                    by_cases h2 : j < lc.base + ad.off + n * i.size + new'.length
                    · rw [if_pos (by omega), if_pos h2]
                    · rw [if_neg (by omega), if_neg h2, List.getElem?_drop, Array.getElem?_toList]
                      congr 1
                      omega
                have hvrat : VRAt ρ (old ++ new) (ccs.toList.take (lc.base + ad.off + n * i.size) ++ new' ++ ccs.toList.drop (lc.base + ad.off + n * i.size + new'.length)).toArray (lc.base + ad.off) := by
                  intro j q hq
                  rw [List.getElem?_append] at hq
                  rw [hread]
                  have hol := holr.length
                  by_cases hj : j < old.length
                  · rw [if_pos hj] at hq
                    rw [if_pos (by omega)]
                    obtain ⟨q', hq1, hq2⟩ := holr.get _ _ hq
                    refine ⟨q', ?_, hq2⟩
                    have := hocell j q' hq1
                    rw [Addr.add_place, cell_row hw] at this
                    exact this
                  · rw [if_neg hj] at hq
                    obtain ⟨q', hq1, hq2⟩ := hnr.get _ _ hq
                    have hlt' := (List.getElem?_eq_some_iff.1 hq1).1
                    rw [if_neg (by omega), if_pos (by omega)]
                    refine ⟨q', ?_, hq2⟩
                    rw [← hq1]
                    congr 1
                    omega
                obtain ⟨hsim, hstp⟩ := hs.regrow ad.block lc ⟨lc.blk, lc.base + ad.off, lc.total, lc.esz⟩ (.cells cs0 el true) (.cells (old ++ new) el true)
                  (w.setRow lc.blk (ccs.toList.take (lc.base + ad.off + n * i.size) ++ new' ++ ccs.toList.drop (lc.base + ad.off + n * i.size + new'.length)).toArray) hl hbk rfl rfl rfl rfl rfl (by simp [World.setRow]) (fun c hc => setRow_other w _ c _ hc)
                  (fun ρ' hle' => ⟨_, cce, (0, 0), hnewrow, by simp; omega, by rw [hcel]; exact hesz, fun _ => rfl, hvrat.mono hle'⟩)
                refine ⟨_, _, _, .inl (run_val hrun), ?_, hsim, hstp⟩
                have := VR.sl (ρ := ρ.up H.next ⟨lc.blk, lc.base + ad.off, lc.total, lc.esz⟩) ⟨H.next, 0, none⟩ (n + m) (n + m) c' _ (Ren.up_same _ _ _) (Nat.le_refl _) (by omega) (fun h => absurd rfl h) (fun _ => by simp only [← hesz]; omega)
                simpa using this
          | sl0 _ b =>
            have hold0 : old = [] := by
              obtain ⟨cs, ce, rw', hbk, hcut⟩ := rdB_some hold
              obtain ⟨_, _, hlen, _⟩ := cut_some hcut
              exact List.length_eq_zero_iff.1 (by simpa using hlen)
            subst hold0
            have hgrow : ∀ H1, H1.next = H.next → Sim P ρ H1 w → Stp ρ H w ρ H1 w → Good P ρ H w (H1.new (.cells ([] ++ new) el true)) (.slice (some ⟨H.next, 0, none⟩) (0 + m) (0 + m))
                ((do pure (Next.value (← Builtin.append_ #[t, u] o.type #[.slice (some b) 0 0, yv])) : Sem Next).run P w) := by
              intro H1 hnx hsim hstp
              have hrun := run_append_grow_src w t u o.type el i z ht hi hiz (some b) 0 0 [] (run_firstCells_some w.drew i.size 0 b 0 0 [] (by simp) (by simp)) yv m new' hsrc (by omega) (by omega) (growslice_fits (by omega) hb1)
              have := Good.grown (H := H) hsim hstp (VRL.append .nil hnr) hcel hzs' (need := 0 + m) (by simpa using hsrc.newsLen) (run_val hrun)
              rwa [hnx] at this
            rcases hcase with ⟨⟨s, hsp⟩, rfl⟩ | ⟨hsp, ⟨cs0, hbk⟩, rfl⟩
            · exact hgrow H rfl hs (.refl _ _ _)
            · obtain ⟨hk1, hk2⟩ := hs.kill ad.block
              exact hgrow _ rfl hk1 hk2
    · cases hr

end Go.Rx
