/- Each operation of the abstract machine is the real one's: literals, new rows and maps. -/
import Derived.Test.YtabhplelhjcdiaaRxOps7
import Derived.Laws.Tables
import Derived.Laws.MakeOwn
/- Each operation of the abstract machine is the real one's: literals, new rows and maps. -/
set_option linter.unusedVariables false
set_option linter.unusedSimpArgs false
namespace Go.Rx

variable {D : List Deferred}
variable {P : Program} {ρ : Ren} {H H' : Heap} {w : World} {e : Env} {a : Act} {nt : Nat} {v : Value}

theorem fold_set : ∀ (l : List Value) (k off : Nat) (arr : Array Value), off + k + l.length ≤ arr.size →
    ((l.zipIdx k).foldl (fun cs (p : Value × Nat) => cs.setIfInBounds (off + p.2) p.1) arr).size = arr.size ∧
    ∀ i, ((l.zipIdx k).foldl (fun cs (p : Value × Nat) => cs.setIfInBounds (off + p.2) p.1) arr)[i]? = if off + k ≤ i ∧ i < off + k + l.length then l[i - (off + k)]? else arr[i]?
  | [], k, off, arr, _ => ⟨rfl, fun i => by rw [if_neg (fun h => by simp at h; omega)]; rfl⟩
  | x :: l, k, off, arr, h => by
    simp only [List.length_cons] at h
    have ih := fold_set l (k + 1) off (arr.setIfInBounds (off + k) x) (by simp; omega)
    simp only [List.zipIdx_cons, List.foldl_cons]
    refine ⟨by rw [ih.1]; simp, fun i => ?_⟩
    rw [ih.2 i]
    simp only [List.length_cons]
    by_cases h1 : off + (k + 1) ≤ i ∧ i < off + (k + 1) + l.length
    · rw [if_pos h1, if_pos (by omega)]
      have : i - (off + k) = (i - (off + (k + 1))) + 1 := by omega
      rw [this]; simp
    · rw [if_neg h1, Array.getElem?_setIfInBounds]
      by_cases h2 : off + k = i
      · subst h2
        rw [if_pos rfl, if_pos (by omega), if_pos (by omega)]
        simp
      · rw [if_neg h2, if_neg (by omega)]

theorem fill_rel (place : Nat → Option (Nat × Nat)) (ha : AR D ρ nt e a) : ∀ (l : List (Nat × Operand)) (ps : List (Nat × Nat × Opd)) (zs cs : List Value) (zs' : Array Value), partsO place l = some ps → fillP e zs ps = some cs → VRL ρ zs zs'.toList →
    ∃ cs', Instr.fill place zs' (l.map fun p => (p.1, a.eval p.2)) = some cs' ∧ VRL ρ cs cs'.toList ∧ cs'.size = zs'.size
  | [], ps, zs, cs, zs', hp, hf, hz => by
    cases hp
    cases hf
    exact ⟨zs', rfl, hz, rfl⟩
  | (i, x) :: l, ps, zs, cs, zs', hp, hf, hz => by
    simp only [partsO] at hp
    split at hp
    · rename_i off sz y ps' hpl hx hps
      cases hp
      simp only [fillP] at hf
      split at hf
      · rename_i xs hxs
        split at hf
        · rename_i zs1 hset
          obtain ⟨hrel, hsize⟩ := cellsN_rel hxs (opd hx ha)
          obtain ⟨hfit, hlen, hget⟩ := setAt_some hset
          have hl1 := hrel.length
          have hl2 := hz.length
          simp only [Array.length_toList] at hl1 hl2
          have hpos : xs ≠ [] := fun h => by subst h; simp at hl1; omega
          have hle := hfit.resolve_left hpos
          have hcond : ¬ ((a.eval x).cells.size ≠ sz + 1 ∨ off + (a.eval x).cells.size > zs'.size) := by omega
          have hfold : (a.eval x).cells.zipIdx.foldl (fun cs (c, j) => cs.setIfInBounds (off + j) c) zs' = ((a.eval x).cells.toList.zipIdx 0).foldl (fun cs (p : Value × Nat) => cs.setIfInBounds (off + p.2) p.1) zs' := by
            rw [← Array.foldl_toList, Array.toList_zipIdx]
          obtain ⟨hs1, hg1⟩ := fold_set (a.eval x).cells.toList 0 off zs' (by simp; omega)
          have hrel1 : VRL ρ zs1 (((a.eval x).cells.toList.zipIdx 0).foldl (fun cs (p : Value × Nat) => cs.setIfInBounds (off + p.2) p.1) zs').toList := by
            refine VRL.of_get ?_ ?_
            · rw [Array.length_toList]; exact (hlen.trans hl2).trans hs1.symm
            · intro j u u' hu hu'
              rw [hget j] at hu
              rw [Array.getElem?_toList, hg1 j] at hu'
              simp only [Nat.add_zero, Array.length_toList] at hu'
              by_cases hin : off ≤ j ∧ j < off + xs.length
              · rw [if_pos hin] at hu
                rw [if_pos (by omega)] at hu'
                obtain ⟨q, hq1, hq2⟩ := hrel.get _ _ hu
                rw [hq1] at hu'; cases hu'
                exact hq2
              · rw [if_neg hin] at hu
                rw [if_neg (by omega)] at hu'
                obtain ⟨q, hq1, hq2⟩ := hz.get _ _ hu
                rw [Array.getElem?_toList] at hq1
                rw [hq1] at hu'; cases hu'
                exact hq2
          obtain ⟨cs', h1, h2, h3⟩ := fill_rel place ha l ps' zs1 cs _ hps hf hrel1
          refine ⟨cs', ?_, h2, h3.trans hs1⟩
          simp only [List.map_cons, Instr.fill, hpl]
          have hb : (decide ((a.eval x).cells.size ≠ sz + 1) || decide (off + (a.eval x).cells.size > zs'.size)) = false := by
            simp only [Bool.or_eq_false_iff, decide_eq_false_iff_not]
            omega
          simp only [hb, Bool.false_eq_true, if_false, hcond]
          rw [hfold]
          exact h1
        · cases hf
      · cases hf
    · cases hp

theorem partsO_parts (parts : Array (Nat × Operand)) (f : Operand → Value) : (parts.map fun (i, x) => (i, f x)).toList = parts.toList.map fun p => (p.1, f p.2) := by simp

theorem structPlaces_some : ∀ {fs : List Field} {l : List (Nat × Nat)}, structPlaces P fs = some l → fs.mapM (fun f => (P.info? f.type).map fun i => (f.offset, i.size)) = some l
  | [], l, h => by cases h; rfl
  | f :: fs, l, h => by
    simp only [structPlaces] at h
    split at h
    · rename_i s l' hs hl'
      cases h
      obtain ⟨i, hi, rfl⟩ := sizeO_info hs
      simp [List.mapM_cons, hi, structPlaces_some hl']
    · cases h

theorem s_builds (o : Oper) (ha : AR D ρ nt e a) (hs : Sim P ρ H w) {t : TypeId} {fs : Array Field} {parts : Array (Nat × Operand)} {zs : List Value} {pl : List (Nat × Nat)} {ps : List (Nat × Nat × Opd)} (ho : o.op = .build t parts)
    (hz : zeroO P t = some zs) (ht : P.underlying t = some (.struct fs)) (hpl : structPlaces P fs.toList = some pl) (hps : partsO (fun i => pl[i]?) parts.toList = some ps)
    (hr : iBuild e zs ps H = some (v, H')) : Still P ρ H w H' v ((execOp a.eval o).run P w) := by
  unfold iBuild at hr
  split at hr
  · rename_i cs hcs
    cases hr
    obtain ⟨z, hz1, rfl⟩ := zeroO_info hz
    obtain ⟨i, hi, hiz, hg⟩ := zero1_info hz1
    obtain ⟨cs', h1, h2, _⟩ := fill_rel _ ha _ _ _ _ z.cells hps hcs (VRL.ground hg)
    refine .still hs (v' := .agg cs') ?_ (.agg _ _ h2)
    simp only [execOp, ho]
    refine run_val (run_build w t _ cs' ?_)
    rw [partsO_parts]
    simp only [Program.built, hi, ht, hiz, structPlaces_some hpl]
    simpa using h1
  · cases hr

theorem s_builda (o : Oper) (ha : AR D ρ nt e a) (hs : Sim P ρ H w) {t el : TypeId} {n s : Nat} {parts : Array (Nat × Operand)} {zs : List Value} {ps : List (Nat × Nat × Opd)} (ho : o.op = .build t parts)
    (hz : zeroO P t = some zs) (ht : P.underlying t = some (.array n el)) (hsz : sizeO P el = some s) (hps : partsO (fun i => some (i * s, s)) parts.toList = some ps)
    (hr : iBuild e zs ps H = some (v, H')) : Still P ρ H w H' v ((execOp a.eval o).run P w) := by
  unfold iBuild at hr
  split at hr
  · rename_i cs hcs
    cases hr
    obtain ⟨z, hz1, rfl⟩ := zeroO_info hz
    obtain ⟨i, hi, hiz, hg⟩ := zero1_info hz1
    obtain ⟨ie, hie, rfl⟩ := sizeO_info hsz
    obtain ⟨cs', h1, h2, _⟩ := fill_rel _ ha _ _ _ _ z.cells hps hcs (VRL.ground hg)
    refine .still hs (v' := .agg cs') ?_ (.agg _ _ h2)
    simp only [execOp, ho]
    refine run_val (run_build w t _ cs' ?_)
    rw [partsO_parts]
    simp only [Program.built, hi, ht, hiz, hie]
    exact h1
  · cases hr

theorem repL_get (zs : List Value) : ∀ (n i : Nat), i < n * zs.length → (repL zs n)[i]? = zs[i % zs.length]?
  | 0, i, h => by simp at h
  | n + 1, i, h => by
    rw [repL_succ, List.getElem?_append]
    by_cases h1 : i < zs.length
    · rw [if_pos h1, Nat.mod_eq_of_lt h1]
    · have h' : i < n * zs.length + zs.length := by rw [Nat.add_mul, Nat.one_mul] at h; exact h
      rw [if_neg h1, repL_get zs n (i - zs.length) (by omega), Nat.mod_eq_sub_mod (a := i) (by omega)]

theorem repL_zero_len (zs : List Value) (n : Nat) (h : zs.length = 0) : repL zs n = [] := by
  apply List.length_eq_zero_iff.1
  rw [repL_length, h]; rfl

theorem made_repL (z : Array Value) (n : Nat) : ((Array.range (n * z.size)).map (z[· % z.size]!)).toList = repL z.toList n := by
  apply List.ext_getElem?
  intro i
  rw [Array.getElem?_toList, Array.getElem?_map, Array.getElem?_range]
  by_cases h : i < n * z.size
  · rw [if_pos h]
    have hpos : 0 < z.size := Nat.pos_of_ne_zero fun h0 => by rw [h0] at h; simp at h
    have hm : i % z.size < z.size := Nat.mod_lt _ hpos
    rw [repL_get _ _ _ (by simpa using h)]
    simp [hm]
  · rw [if_neg h, List.getElem?_eq_none (by rw [repL_length]; simpa using h)]
    rfl

theorem repL_ground {zs : List Value} (h : zs.all groundV = true) (n : Nat) : VRL ρ (repL zs n) (repL zs n) := by
  refine VRL.ground ?_
  rw [List.all_eq_true]
  intro x hx
  have : x ∈ zs := by
    induction n with
    | zero => cases hx
    | succ n ih =>
      rw [repL_succ] at hx
      rcases List.mem_append.1 hx with hx | hx
      · exact hx
      · exact ih hx
  exact List.all_eq_true.1 h x this

theorem Good.newRow (hs : Sim P ρ H w) {t : TypeId} {cs : List Value} {ccs : Array Value} {n c : Nat} {s : Sem Next} (hrel : VRL ρ cs ccs.toList) (hnc : n ≤ c) (hfit : c * P.cellsOf t ≤ ccs.size)
    (hrun : s.run P w = .ok (.value (.slice (some ⟨w.heap.size, 0, none⟩) n c)) (w.alloc (.cells ccs t))) :
    Good P ρ H w (H.new (.cells cs t true)) (.slice (some ⟨H.next, 0, none⟩) n c) (s.run P w) := by
  obtain ⟨h1, h2⟩ := hs.row cs t true ccs t hrel.atA
  refine ⟨_, _, _, .inl hrun, ?_, h1, h2⟩
  have := VR.sl (ρ := ρ.up H.next ⟨w.heap.size, 0, ccs.size, P.cellsOf t⟩) ⟨H.next, 0, none⟩ n c c _ (Ren.up_same _ _ _) hnc (Nat.le_refl _) (fun _ => rfl) (fun _ => by simpa using hfit)
  simpa using this

theorem s_bslice (o : Oper) (ha : AR D ρ nt e a) (hs : Sim P ρ H w) {t el : TypeId} {len s : Nat} {parts : Array (Nat × Operand)} {zs : List Value} {ps : List (Nat × Nat × Opd)} (ho : o.op = .buildSlice t len parts)
    (hz : zeroO P el = some zs) (ht : P.underlying t = some (.slice el)) (hsz : sizeO P el = some s) (hzs : zs.length = s) (hsm : ¬ len * s > 16777216) (hps : partsO (fun i => some (i * s, s)) parts.toList = some ps)
    (hr : iBslice e el len (repL zs len) ps H = some (v, H')) : Good P ρ H w H' v ((execOp a.eval o).run P w) := by
  unfold iBslice at hr
  split at hr
  · rename_i cs hcs
    cases hr
    obtain ⟨z, hz1, rfl⟩ := zeroO_info hz
    obtain ⟨i, hi, hiz, hg⟩ := zero1_info hz1
    have hrep : VRL ρ (repL z.cells.toList len) ((Array.range (len * z.cells.size)).map (z.cells[· % z.cells.size]!)).toList := by
      rw [made_repL]
      exact repL_ground hg len
    obtain ⟨cs', h1, h2, h3⟩ := fill_rel _ ha _ _ _ _ _ hps hcs hrep
    have hzs' : z.cells.size = s := by simpa using hzs
    have hzv := run_zeroValue hz1 w
    have hss := run_sizeOf hsz w
    refine Good.newRow hs h2 (Nat.le_refl _) (by rw [h3, sizeO_cellsOf hsz]; simp [hzs']) ?_
    simp only [execOp, ho]
    refine run_val ?_
    have hsm' : ¬ (len * s > 2 ^ 24) := by simpa using hsm
    by_cases h0 : len * s = 0
    · have e1 : ((Array.range (len * z.cells.size)).map (z.cells[· % z.cells.size]!)) = #[] := by rw [hzs', h0, Array.range_zero']; exact Array.map_empty
      rw [e1] at h1
      rw [← partsO_parts] at h1
      simp [Instr.buildSlice, run_underlying ht, hss, hsm', h0, Array.range_zero', newRow]
      simp only [Array.toList_map] at h1
      rw [h1]
      simp
    · rw [hzs', ← partsO_parts] at h1
      simp only [Array.toList_map] at h1
      simp [Instr.buildSlice, run_underlying ht, hss, hsm', h0, hzv, newRow, hzs', h1]
  · cases hr

theorem s_mks (o : Oper) (ha : AR D ρ nt e a) (hs : Sim P ρ H w) {t el : TypeId} {s : Nat} {zs : List Value} {l c : Operand} {l' c' : Opd} (ho : o.op = .makeSlice t l c) (hl : Opd.of l = some l') (hc : Opd.of c = some c')
    (hz : zeroO P el = some zs) (ht : P.underlying t = some (.slice el)) (hsz : sizeO P el = some s) (hzs : zs.length = s)
    (hr : iMks el s (P.bytesOf el) zs (l'.v e) (c'.v e) H = some (v, H')) : Good P ρ H w H' v ((execOp a.eval o).run P w) := by
  have h1 := opd hl ha
  have h2 := opd hc ha
  generalize hlv : a.eval l = lv at h1
  generalize hcv : a.eval c = cv at h2
  generalize l'.v e = la at hr h1
  generalize c'.v e = ca at hr h2
  unfold iMks at hr
  split at hr
  · rename_i k1 l k2 c
    obtain ⟨hb, hr⟩ := bifS hr
    simp only [Bool.and_eq_true, Nat.ble_eq] at hb
    obtain ⟨⟨hle, hlim⟩, h63⟩ := hb
    cases hr
    cases h1
    cases h2
    obtain ⟨z, hz1, rfl⟩ := zeroO_info hz
    obtain ⟨i, hi, hiz, hg⟩ := zero1_info hz1
    have hby : P.bytesOf el = i.bytes := by simp [Program.bytesOf, hi]
    have hsi : i.size = s := by have := sizeO_cellsOf hsz; simpa [Program.cellsOf, hi] using this
    have hzs' : z.cells.size = s := by simpa using hzs
    rw [hby] at hlim
    have hrun := run_make (P := P) w t el i z ht hi hiz k1 k2 (Int.ofNat l) (Int.ofNat c) (by simp) (by simpa using hle) (by
      simp only [limB] at hlim
      simp only [Int.ofNat_eq_natCast]
      rw [← Int.natCast_mul, Nat.mul_comm]
      omega) (by simp only [Int.ofNat_eq_natCast]; omega)
    simp only [Int.ofNat_eq_natCast, Int.toNat_natCast] at hrun
    have hcells : madeCells z.cells (c * i.size) = (Array.range (c * z.cells.size)).map (z.cells[· % z.cells.size]!) := by rw [hsi, ← hzs']; rfl
    refine Good.newRow hs (ccs := madeCells z.cells (c * i.size)) ?_ hle (by rw [size_madeCells, sizeO_cellsOf hsz, hsi]; exact Nat.le_refl _) ?_
    · rw [hcells, made_repL]
      have hall : VRL ρ (repL z.cells.toList c) (repL z.cells.toList c) := repL_ground hg c
      cases hs0 : Nat.beq s 0 with
      | false => exact hall
      | true =>
        have h0 := Nat.eq_of_beq_eq_true hs0
        rw [repL_zero_len z.cells.toList c (by rw [Array.length_toList, hzs', h0])]
        exact .nil
    · simp only [execOp, ho, hlv, hcv]
      exact run_val hrun
  · cases hr

theorem s_mkm (o : Oper) (hs : Sim P ρ H w) {t : TypeId} (ho : o.op = .makeMap t none) :
    Good P ρ H w (H.new (.map [])) (.map (some H.next)) ((execOp a.eval o).run P w) := by
  obtain ⟨h1, h2⟩ := hs.add (.map []) (.map #[] 0) ⟨w.heap.size, 0, 0, 0⟩ rfl (fun ρ' hle => ⟨#[], by simpa using heap_alloc_new w _, .nil 0⟩)
  refine ⟨_, .map (some w.heap.size), _, .inl ?_, ?_, h1, h2⟩
  · simp only [execOp, ho]
    refine run_val ?_
    simp [Instr.makeMap]
  · exact .map _ ⟨w.heap.size, 0, 0, 0⟩ (Ren.up_same _ _ _)

end Go.Rx
