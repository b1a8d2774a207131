/- Each operation of the abstract machine is the real one's. -/
import Derived.Test.YtabhplelhjcdiaaRxSim
import Derived.Test.YtabhplelhjcdiaaRxComp
import Derived.Deep.AppendSrc
/- Each operation of the abstract machine is the real one's. -/
set_option linter.unusedVariables false
set_option linter.unusedSimpArgs false
namespace Go.Rx

variable {D : List Deferred}
variable {P : Program} {ρ : Ren} {H H' : Heap} {w : World} {e : Env} {a : Act} {nt : Nat}

/-- A frame's slots. -/
structure AR (D : List Deferred) (ρ : Ren) (nt : Nat) (e : Env) (a : Act) : Prop where
  size : nt ≤ a.tmps.size
  defers : a.defers = D
  slot : ∀ t, VR ρ (e.g t) (a.tmps.getD t undef)

theorem AR.mono {ρ' : Ren} (hle : ρ.le ρ') (h : AR D ρ nt e a) : AR D ρ' nt e a := ⟨h.size, h.defers, fun t => (h.slot t).mono hle⟩

theorem VR.undef : VR ρ undef undef := .tuple [] [] .nil
theorem VR.ground {v : Value} (h : groundV v = true) : VR ρ v v := by
  unfold groundV at h
  split at h <;> first | exact .bool _ | exact .int _ _ | exact .string _ | exact .nilIface | exact .nilFunc | exact .ptrNil | exact .mapNil | exact .slNil | cases h
theorem VRL.ground : ∀ {l : List Value}, l.all groundV = true → VRL ρ l l
  | [], _ => .nil
  | v :: l, h => by
    simp only [List.all_cons, Bool.and_eq_true] at h
    exact .cons v v l l (.ground h.1) (VRL.ground h.2)

theorem opd {x : Operand} {y : Opd} (hy : Opd.of x = some y) (h : AR D ρ nt e a) : VR ρ (y.v e) (a.eval x) := by
  cases x with
  | tmp n => cases hy; exact h.slot n
  | const v =>
    simp only [Opd.of] at hy
    split at hy
    · rename_i hg; cases hy; exact .ground hg
    · cases hy
  | func f => cases hy; exact .func _ [] [] [] [] .nil .nil
  | global g => cases hy

theorem vL_nil (e : Env) : vL e [] = [] := rfl
theorem vL_cons (e : Env) (x : Opd) (l : List Opd) : vL e (x :: l) = x.v e :: vL e l := rfl
theorem opdL_rel : ∀ {l : List Operand} {l' : List Opd}, opdL l = some l' → AR D ρ nt e a → VRL ρ (vL e l') (l.map a.eval)
  | [], l', h, _ => by cases h; exact .nil
  | x :: r, l', h, ha => by
    simp only [opdL] at h
    split at h
    · rename_i y l hy hl
      cases h
      exact .cons _ _ _ _ (opd hy ha) (opdL_rel hl ha)
    · cases h

/-! ### Memory -/
theorem Addr.add_place (b o n : Nat) : (⟨b, o, none⟩ : Addr).add n = ⟨b, o + n, none⟩ := by unfold Addr.add; split <;> simp_all
theorem cell_row {c : Nat} {ccs : Array Value} {ce : TypeId} {fr : Nat × Nat} (h : w.heap[c]? = some (.cells ccs ce fr)) (i : Nat) : w.cell? ⟨c, i, none⟩ = ccs[i]? := by
  simp [World.cell?, h]

theorem rdB_some {off n : Nat} {x : Option Blk} {vs : List Value} (h : rdB off n x = some vs) : ∃ cs e rw, x = some (.cells cs e rw) ∧ cut cs off n = some vs := by
  unfold rdB at h
  split at h
  · exact ⟨_, _, _, rfl, h⟩
  · cases h

/-- What is read of the heap is what stands in the world. -/
theorem Sim.rd (h : Sim P ρ H w) {ad : Addr} {l : Loc} {n : Nat} {vs : List Value} (hl : ρ ad.block = some l) (hr : rdCells H ad n = some vs) :
    ∃ vs', vs'.length = n ∧ VRL ρ vs vs' ∧ ∀ (j : Nat) (u : Value), vs'[j]? = some u → w.cell? ((⟨l.blk, l.base + ad.off, none⟩ : Addr).add j) = some u := by
  obtain ⟨cs, ce, rw, hb, hc⟩ := rdB_some hr
  obtain ⟨ccs, cce, fr, hw, hsz, _, _, hat⟩ := h.blks _ _ _ hl hb
  obtain ⟨_, _, hlen, hget⟩ := cut_some hc
  have key : ∀ j, j < n → ∃ u, ccs[l.base + ad.off + j]? = some u ∧ ∀ v, vs[j]? = some v → VR ρ v u := fun j hj => by
    have hv := hget j hj
    have hjl : j < vs.length := by omega
    rw [List.getElem?_eq_getElem hjl] at hv
    obtain ⟨u, hu, hvr⟩ := hat _ _ hv.symm
    refine ⟨u, by rw [Nat.add_assoc]; exact hu, fun v hv' => ?_⟩
    rw [List.getElem?_eq_getElem hjl] at hv'
    cases hv'
    exact hvr
  refine ⟨(List.range n).map (fun j => (ccs[l.base + ad.off + j]?).getD Go.undef), by simp, VRL.of_get (by simp [hlen]) ?_, ?_⟩
  · intro i v v' hv hv'
    have hi : i < n := by have := (List.getElem?_eq_some_iff.1 hv).1; omega
    obtain ⟨u, hu, hvr⟩ := key i hi
    simp [List.getElem?_range hi, hu] at hv'
    subst hv'
    exact hvr v hv
  · intro j u hj
    have hi : j < n := by have := (List.getElem?_eq_some_iff.1 hj).1; simpa using this
    obtain ⟨u', hu, _⟩ := key j hi
    simp [List.getElem?_range hi, hu] at hj
    subst hj
    rw [Addr.add_place, cell_row hw]
    exact hu

theorem VR.one {v v' : Value} (h : VR ρ v v') (hv : isAggV v = false) : v'.oneCell' = true := by
  cases h <;> first | rfl | (simp [isAggV] at hv; done)
theorem allOne_rel : ∀ {l l' : List Value}, allOne l = true → VRL ρ l l' → ∀ u ∈ l', u.oneCell' = true
  | _, _, _, .nil, u, hu => by cases hu
  | v :: l, v' :: l', ha, .cons _ _ _ _ hv hl, u, hu => by
    have ha' : (bif isAggV v then false else allOne l) = true := ha
    cases hx : isAggV v with
    | true => rw [hx] at ha'; cases ha'
    | false =>
      rw [hx] at ha'
      rcases List.mem_cons.1 hu with rfl | hm
      · exact hv.one hx
      · exact allOne_rel ha' hl u hm

theorem wrB_some {b off : Nat} {vs : List Value} {x : Option Blk} (h : wrB H b off vs x = some H') : ∃ cs ce cs', x = some (.cells cs ce true) ∧ allOne vs = true ∧ setAt cs off vs = some cs' ∧ H' = H.set b (some (.cells cs' ce true)) := by
  unfold wrB at h
  split at h
  · rename_i cs ce
    cases ha : allOne vs with
    | false => rw [ha] at h; cases h
    | true =>
      rw [ha] at h
      simp only [cond_true] at h
      split at h
      · rename_i cs' hs
        cases h
        exact ⟨cs, ce, cs', rfl, rfl, hs, rfl⟩
      · cases h
  · cases h

/-- What is written into the heap is written into the world. -/
theorem Sim.wr (h : Sim P ρ H w) {ad : Addr} {l : Loc} {vs vs' : List Value} (hl : ρ ad.block = some l) (hr : wrCells H ad vs = some H') (hvs : VRL ρ vs vs') :
    ∃ w', (storeCells ⟨l.blk, l.base + ad.off, none⟩ vs').run P w = .ok () w' ∧ Sim P ρ H' w' ∧ Stp ρ H w ρ H' w' := by
  obtain ⟨cs, ce, cs', hb, hone, hs, rfl⟩ := wrB_some hr
  obtain ⟨ccs, cce, fr, hw, hsz, he, hfr, hat⟩ := h.blks _ _ _ hl hb
  obtain rfl := hfr rfl
  obtain ⟨hfit, hlen, hget⟩ := setAt_some hs
  have hvl := hvs.length
  by_cases h0 : vs = []
  · subst h0
    cases hvs
    refine ⟨w, rfl, ?_⟩
    have hcs : cs' = cs := by
      apply List.ext_getElem?
      intro j
      rw [hget j, if_neg (fun hh => by simp at hh; omega)]
    subst hcs
    exact h.turn _ l _ _ w hl hb rfl rfl rfl rfl rfl (fun _ _ => rfl) ⟨ccs, cce, (0, 0), hw, hsz, he, fun _ => rfl, hat⟩
  · have hfit' := hfit.resolve_left h0
    -- the real row is long enough
    have hlong : l.base + ad.off + vs'.length ≤ ccs.size := by
      have hpos : 0 < vs.length := List.length_pos_iff.2 h0
      have hlt : ad.off + vs.length - 1 < cs.length := by omega
      obtain ⟨u, hu, _⟩ := hat _ _ (List.getElem?_eq_getElem hlt)
      have := (Array.getElem?_eq_some_iff.1 hu).1
      omega
    have hst := run_storeCells_at P l.blk (l.base + ad.off) cce vs' 0 ccs w hw (by simpa using hlong) (allOne_rel hone hvs)
    simp only [Nat.add_zero] at hst
    refine ⟨_, hst, ?_⟩
    have hnew := setRow_heap w l.blk ccs (ccs.toList.take (l.base + ad.off) ++ vs' ++ ccs.toList.drop (l.base + ad.off + vs'.length)).toArray cce (0, 0) hw
    refine h.turn _ l _ _ _ hl hb rfl rfl rfl rfl (by simp [World.setRow]) (fun c hc => setRow_other w _ c _ hc) ⟨_, cce, (0, 0), hnew, ?_, he, fun _ => rfl, ?_⟩
    · simp; omega
    · intro i v hv
      rw [hget i] at hv
      have hread : (ccs.toList.take (l.base + ad.off) ++ vs' ++ ccs.toList.drop (l.base + ad.off + vs'.length)).toArray[l.base + i]? =
          if ad.off ≤ i ∧ i < ad.off + vs'.length then vs'[i - ad.off]? else ccs[l.base + i]? := by
        simp only [List.getElem?_toArray]
        rw [List.append_assoc, List.getElem?_append]
        simp only [List.length_take, Array.length_toList, Nat.min_eq_left (show l.base + ad.off ≤ ccs.size by omega)]
        by_cases h1 : i < ad.off
        · rw [if_pos (by omega), if_neg (by omega), List.getElem?_take, if_pos (by omega), Array.getElem?_toList]
        · rw [if_neg (by omega), List.getElem?_append]
          by_cases h2 : i - ad.off < vs'.length
          · rw [if_pos (by omega), if_pos (by omega)]
            congr 1
            omega
          · rw [if_neg (by omega), if_neg (by omega), List.getElem?_drop, Array.getElem?_toList]
            congr 1
            omega
      rw [hread]
      rw [← hvl]
      by_cases hin : ad.off ≤ i ∧ i < ad.off + vs.length
      · rw [if_pos hin] at hv ⊢
        obtain ⟨v', h1, h2⟩ := hvs.get _ _ hv
        exact ⟨v', h1, h2⟩
      · rw [if_neg hin] at hv ⊢
        exact hat i v hv

end Go.Rx
