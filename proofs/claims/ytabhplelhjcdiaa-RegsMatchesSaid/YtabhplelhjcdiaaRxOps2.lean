/- Each operation of the abstract machine is the real one's: the plain ones, memory. -/
import Derived.Test.YtabhplelhjcdiaaRxOps
/- Each operation of the abstract machine is the real one's: the plain ones, memory. -/
set_option linter.unusedVariables false
set_option linter.unusedSimpArgs false
namespace Go.Rx

variable {D : List Deferred}
variable {P : Program} {ρ : Ren} {H H' : Heap} {w : World} {e : Env} {a : Act} {nt : Nat}

/-- An operation has gone well: its value and the world stand to the abstract ones. -/
def Good (P : Program) (ρ : Ren) (H : Heap) (w : World) (H' : Heap) (v : Value) (r : Result Next) : Prop :=
  ∃ ρ' v' w', (r = .ok (.value v') w' ∨ (r = .ok .skip w' ∧ v' = undef)) ∧ VR ρ' v v' ∧ Sim P ρ' H' w' ∧ Stp ρ H w ρ' H' w'

theorem Good.still {v v' : Value} {r : Result Next} (hs : Sim P ρ H w) (hr : r = .ok (.value v') w) (hv : VR ρ v v') : Good P ρ H w H v r :=
  ⟨ρ, v', w, .inl hr, hv, hs, .refl _ _ _⟩

/-- An operation has gone well, and the world stays. -/
def Still (P : Program) (ρ : Ren) (H : Heap) (w : World) (H' : Heap) (v : Value) (r : Result Next) : Prop :=
  H' = H ∧ Sim P ρ H w ∧ ∃ v', r = .ok (.value v') w ∧ VR ρ v v'
theorem Still.still {v v' : Value} {r : Result Next} (hs : Sim P ρ H w) (hr : r = .ok (.value v') w) (hv : VR ρ v v') : Still P ρ H w H v r := ⟨rfl, hs, v', hr, hv⟩
theorem Still.good {v : Value} {r : Result Next} (h : Still P ρ H w H' v r) : Good P ρ H w H' v r := by
  obtain ⟨rfl, hs, v', hr, hv⟩ := h
  exact .still hs hr hv

theorem run_val {s : Sem Value} {v' : Value} {w' : World} (h : s.run P w = .ok v' w') : (do let x ← s; pure (Next.value x) : Sem Next).run P w = .ok (.value v') w' := by simp [h]
theorem run_skip {s : Sem Unit} {w' : World} (h : s.run P w = .ok () w') : (do s; pure Next.skip : Sem Next).run P w = .ok .skip w' := by simp [h]

theorem sizeO_info {t : TypeId} {n : Nat} (h : sizeO P t = some n) : ∃ i, P.info? t = some i ∧ i.size = n := by
  unfold sizeO at h
  split at h
  · rename_i i hi; cases h; exact ⟨i, hi, rfl⟩
  · cases h
theorem run_sizeOf {t : TypeId} {n : Nat} (h : sizeO P t = some n) (w : World) : (sizeOf t).run P w = .ok n w := by
  obtain ⟨i, hi, rfl⟩ := sizeO_info h
  simp [sizeOf, typeInfo, hi]
theorem sizeO_cellsOf {t : TypeId} {n : Nat} (h : sizeO P t = some n) : P.cellsOf t = n := by
  obtain ⟨i, hi, rfl⟩ := sizeO_info h
  simp [Program.cellsOf, hi]
theorem zero1_info {t : TypeId} {v : Value} (h : zero1 P t = some v) : ∃ i, P.info? t = some i ∧ i.zero = some v ∧ v.cells.toList.all groundV = true := by
  unfold zero1 at h
  split at h
  · rename_i i hi
    split at h
    · rename_i z hz
      split at h
      · rename_i hg; cases h; exact ⟨i, hi, hz, hg⟩
      · cases h
    · cases h
  · cases h
theorem zeroO_info {t : TypeId} {zs : List Value} (h : zeroO P t = some zs) : ∃ v, zero1 P t = some v ∧ zs = v.cells.toList := by
  unfold zeroO at h
  split at h
  · rename_i v hv; cases h; exact ⟨v, hv, rfl⟩
  · cases h
theorem run_zeroValue {t : TypeId} {v : Value} (h : zero1 P t = some v) (w : World) : (zeroValue t).run P w = .ok v w := by
  obtain ⟨i, hi, hz, _⟩ := zero1_info h
  simp [zeroValue, typeInfo, hi, hz]
theorem aggO_under {t : TypeId} {b : Bool} (h : aggO P t = some b) : ∃ d, P.underlying t = some d ∧ isAggB d = b := by
  unfold aggO at h
  split at h
  · rename_i d hd; cases h; exact ⟨d, hd, rfl⟩
  · cases h
theorem run_isAgg {t : TypeId} {b : Bool} (h : aggO P t = some b) (w : World) : (isAgg t).run P w = .ok b w := by
  obtain ⟨d, hd, rfl⟩ := aggO_under h
  cases d <;> simp [isAgg, run_underlying hd, isAggB]

theorem VRL.atA {cs : List Value} {ccs : Array Value} (h : VRL ρ cs ccs.toList) : VRAt ρ cs ccs 0 := fun i v hv => by
  obtain ⟨v', h1, h2⟩ := h.get i v hv
  exact ⟨v', by simpa using h1, h2⟩

theorem cellsN_rel {n : Nat} {v v' : Value} {cs : List Value} (h : cellsN n v = some cs) (hv : VR ρ v v') : VRL ρ cs v'.cells.toList ∧ v'.cells.size = n := by
  cases hv with
  | agg l l' hl =>
    simp only [cellsN] at h
    cases hb : Nat.beq l.length n with
    | false => rw [hb] at h; cases h
    | true =>
      rw [hb] at h
      simp only [cond_true, Option.some.injEq] at h
      subst h
      refine ⟨hl, ?_⟩
      have := hl.length
      have := Nat.eq_of_beq_eq_true hb
      simp [Value.cells]
      omega
  | tuple l l' hl => simp [cellsN] at h
  | cap c c' hc =>
    simp only [cellsN, capLB] at h
    cases hb : Nat.beq n 1 with
    | false => rw [hb] at h; cases h
    | true =>
      rw [hb] at h
      cases h
      exact ⟨.cons _ _ _ _ (.cap c c' hc) .nil, (Nat.eq_of_beq_eq_true hb).symm⟩
  | _ =>
    simp only [cellsN] at h
    cases hb : Nat.beq n 1 with
    | false => rw [hb] at h; cases h
    | true =>
      rw [hb] at h
      cases h
      refine ⟨.cons _ _ _ _ (by first | exact .bool _ | exact .int _ _ | exact .string _ | exact .nilIface | exact .nilFunc | exact .ptrNil | exact .mapNil | exact .slNil | (constructor <;> assumption)) .nil, (Nat.eq_of_beq_eq_true hb).symm⟩

section
variable (o : Oper) (ha : AR D ρ nt e a) (hs : Sim P ρ H w)
include ha hs

theorem s_mov {x : Operand} {y : Opd} (ho : o.op = .move x ∨ o.op = .assign x) (hy : Opd.of x = some y) : Still P ρ H w H (y.v e) ((execOp a.eval o).run P w) := by
  refine .still hs ?_ (opd hy ha)
  rcases ho with ho | ho <;> simp [execOp, ho]

theorem s_pick {c x y : Operand} {c' x' y' : Opd} {v : Value} (ho : o.op = .pick c x y) (hc : Opd.of c = some c') (hx : Opd.of x = some x') (hy : Opd.of y = some y')
    (hr : iPick (c'.v e) (x'.v e) (y'.v e) H = some (v, H')) : Still P ρ H w H' v ((execOp a.eval o).run P w) := by
  have h1 := opd hc ha
  have h2 := opd hx ha
  have h3 := opd hy ha
  cases hcv : c'.v e with
  | bool b =>
    rw [hcv] at hr h1
    cases h1e : a.eval c with
    | bool b' =>
      rw [h1e] at h1
      cases h1
      cases hr
      refine .still hs (v' := if b then a.eval x else a.eval y) ?_ ?_
      · cases b <;> simp [execOp, ho, h1e, asBool]
      · cases b
        · exact h3
        · exact h2
    | _ => rw [h1e] at h1; cases h1
  | _ => rw [hcv] at hr; cases hr

omit ha in
theorem s_newPtr {t : TypeId} {cs : List Value} {ccs : Array Value} {v : Value} {s : Sem Next} (hrel : VRL ρ cs ccs.toList) (hrun : s.run P w = .ok (.value (.pointer (some ⟨w.heap.size, 0, none⟩))) (w.alloc (.cells ccs t)))
    (hr : newPtr t cs H = some (v, H')) : Good P ρ H w H' v (s.run P w) := by
  cases hr
  obtain ⟨h1, h2⟩ := hs.row cs t true ccs t hrel.atA
  refine ⟨_, _, _, .inl hrun, ?_, h1, h2⟩
  have := VR.ptr (ρ := ρ.up H.next ⟨w.heap.size, 0, ccs.size, P.cellsOf t⟩) ⟨H.next, 0, none⟩ _ (Ren.up_same _ _ _) rfl
  simpa using this

omit ha in
theorem s_alloc {t : TypeId} {zs : List Value} {v : Value} (ho : o.op = .alloc t) (hz : zeroO P t = some zs) (hr : newPtr t zs H = some (v, H')) : Good P ρ H w H' v ((execOp a.eval o).run P w) := by
  obtain ⟨z, hz1, rfl⟩ := zeroO_info hz
  obtain ⟨i, _, _, hg⟩ := zero1_info hz1
  refine s_newPtr hs (ccs := z.cells) (VRL.ground hg) ?_ hr
  have hzv := run_zeroValue hz1 w
  simp only [execOp, ho]
  exact run_val (by simp [Instr.alloc, hzv, newVar, newRow])

theorem s_box {t : TypeId} {n : Nat} {x : Operand} {y : Opd} {v : Value} (ho : o.op = .box t x) (hy : Opd.of x = some y) (hr : iBox t n (y.v e) H = some (v, H')) : Good P ρ H w H' v ((execOp a.eval o).run P w) := by
  unfold iBox at hr
  split at hr
  · rename_i cs hc
    obtain ⟨h1, _⟩ := cellsN_rel hc (opd hy ha)
    refine s_newPtr hs (ccs := (a.eval x).cells) h1 ?_ hr
    simp only [execOp, ho]
    exact run_val (by simp [Instr.box, newVar, newRow])
  · cases hr

theorem s_load {t : TypeId} {x : Operand} {y : Opd} {v : Value} (ho : o.op = .load t x) (hy : Opd.of x = some y) (hg : aggO P t = some false) (hr : iLoad (y.v e) H = some (v, H')) :
    Still P ρ H w H' v ((execOp a.eval o).run P w) := by
  have hx := opd hy ha
  cases hyv : y.v e with
  | pointer p =>
    rw [hyv] at hr hx
    cases p with
    | none => cases hr
    | some ad =>
      simp only [iLoad] at hr
      cases hrd : rdCells H ad 1 with
      | none => rw [hrd] at hr; cases hr
      | some vs =>
        rw [hrd] at hr
        match vs, hr, hrd with
        | [v1], hr, hrd =>
          simp only [one, Option.some.injEq, Prod.mk.injEq] at hr
          obtain ⟨rfl, rfl⟩ := hr
          cases hax : a.eval x with
          | pointer q =>
            rw [hax] at hx
            cases hx with
            | ptr _ l hl hsp =>
              obtain ⟨vs', hlen, hvr, hcell⟩ := hs.rd hl hrd
              match vs', hlen, hvr, hcell with
              | [u], _, .cons _ _ _ _ hv _, hcell =>
                have hc := hcell 0 u (by simp)
                rw [Addr.add_place] at hc
                refine .still hs (v' := u) ?_ hv
                simp only [execOp, ho]
                refine run_val ?_
                simp only [Nat.add_zero] at hc
                simp [Instr.loadAt, hax, Instr.sureAddr, loadVar, run_isAgg hg, hc]
          | _ => rw [hax] at hx; cases hx
        | [], hr, _ => cases hr
        | _ :: _ :: _, hr, _ => cases hr
  | _ => rw [hyv] at hr; cases hr

theorem s_loadn {t : TypeId} {n : Nat} {x : Operand} {y : Opd} {v : Value} (ho : o.op = .load t x) (hy : Opd.of x = some y) (hg : aggO P t = some true) (hn : sizeO P t = some n) (hr : iLoadn (y.v e) n H = some (v, H')) :
    Still P ρ H w H' v ((execOp a.eval o).run P w) := by
  have hx := opd hy ha
  cases hyv : y.v e with
  | pointer p =>
    rw [hyv] at hr hx
    cases p with
    | none => cases hr
    | some ad =>
      simp only [iLoadn] at hr
      cases hrd : rdCells H ad n with
      | none => rw [hrd] at hr; cases hr
      | some vs =>
        rw [hrd] at hr
        simp only [aggR, Option.some.injEq, Prod.mk.injEq] at hr
        obtain ⟨rfl, rfl⟩ := hr
        cases hax : a.eval x with
        | pointer q =>
          rw [hax] at hx
          cases hx with
          | ptr _ l hl hsp =>
            obtain ⟨vs', hlen, hvr, hcell⟩ := hs.rd hl hrd
            have hld := run_loadCells_list (P := P) w _ vs' hcell
            rw [hlen] at hld
            refine .still hs (v' := .agg ⟨vs'⟩) ?_ (.agg _ _ hvr)
            simp only [execOp, ho]
            refine run_val ?_
            simp [Instr.loadAt, hax, Instr.sureAddr, loadVar, run_isAgg hg, run_sizeOf hn, hld]
        | _ => rw [hax] at hx; cases hx
  | _ => rw [hyv] at hr; cases hr

theorem s_store {t : TypeId} {n : Nat} {x y : Operand} {x' y' : Opd} {v : Value} (ho : o.op = .store t x y) (hx : Opd.of x = some x') (hy : Opd.of y = some y') (hn : sizeO P t = some n) (hr : iStore n (x'.v e) (y'.v e) H = some (v, H')) :
    Good P ρ H w H' v ((execOp a.eval o).run P w) := by
  have h1 := opd hx ha
  have h2 := opd hy ha
  unfold iStore at hr
  split at hr
  · rename_i ad hxv
    rw [hxv] at h1
    split at hr
    · rename_i cs hc
      split at hr
      · rename_i h' hw
        cases hr
        cases hax : a.eval x with
        | pointer q =>
          rw [hax] at h1
          cases h1 with
          | ptr _ l hl hsp =>
            obtain ⟨hcr, hcs⟩ := cellsN_rel hc h2
            obtain ⟨w', hrun, hsim, hstp⟩ := hs.wr hl hw hcr
            refine ⟨ρ, undef, w', .inr ⟨?_, rfl⟩, .undef, hsim, hstp⟩
            simp only [execOp, ho]
            refine run_skip ?_
            simp [Instr.storeAt, hax, Instr.sureAddr, storeVar, run_sizeOf hn, hcs, hrun]
        | _ => rw [hax] at h1; cases h1
      · cases hr
    · cases hr
  · cases hr

end
end Go.Rx
