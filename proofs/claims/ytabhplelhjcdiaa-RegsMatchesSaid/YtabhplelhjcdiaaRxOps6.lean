/- Each operation of the abstract machine is the real one's: indexes, lengths, parts. -/
import Derived.Test.YtabhplelhjcdiaaRxOps5
/- Each operation of the abstract machine is the real one's: indexes, lengths, parts. -/
set_option linter.unusedVariables false
set_option linter.unusedSimpArgs false
namespace Go.Rx

variable {D : List Deferred}
variable {P : Program} {ρ : Ren} {H H' : Heap} {w : World} {e : Env} {a : Act} {nt : Nat} {v : Value}

theorem ix_rel {iv : Value} {k : IntKind} {i : Int} {n j : Nat} (h : ix i n = some j) (hv : VR ρ (.int k i) iv) : iv = .int k (j : Int) ∧ i = (j : Int) ∧ j < n := by
  obtain ⟨rfl, hj⟩ := ix_some h
  cases hv
  exact ⟨rfl, rfl, hj⟩

theorem s_ixs (o : Oper) (ha : AR D ρ nt e a) (hs : Sim P ρ H w) {t el : TypeId} {sz : Nat} {x i : Operand} {x' i' : Opd} (ho : o.op = .indexAddr t x i) (hx : Opd.of x = some x') (hi : Opd.of i = some i')
    (ht : P.underlying t = some (.slice el)) (hsz : sizeO P el = some sz)
    (hr : iIxs sz (x'.v e) (i'.v e) H = some (v, H')) : Still P ρ H w H' v ((execOp a.eval o).run P w) := by
  have h1 := opd hx ha
  have h2 := opd hi ha
  generalize hxv : a.eval x = xv at h1
  generalize hiv : a.eval i = iv at h2
  generalize x'.v e = xa at hr h1
  generalize i'.v e = ia at hr h2
  unfold iIxs at hr
  split at hr
  · rename_i ad len cap k i
    split at hr
    · rename_i j hj
      cases hr
      obtain ⟨rfl, rfl, hjn⟩ := ix_rel hj h2
      cases h1 with
      | sl _ _ _ c' l hl hn hc hx fit =>
        refine .still hs (v' := .pointer (some ((⟨l.blk, l.base + ad.off, none⟩ : Addr).add (j * sz)))) ?_ ?_
        · simp only [execOp, ho, hxv, hiv]
          refine run_val ?_
          have h3 : (0 : Int) ≤ (j : Int) ∧ (j : Int) < (len : Int) := ⟨by omega, by omega⟩
          simp [Instr.indexAt, asIntOf, run_underlying ht, h3, hjn, run_sizeOf hsz]
        · exact VR.movA (ad := ⟨ad.block, ad.off, none⟩) hl rfl _
      | sl0 _ b => omega
    · cases hr
  · cases hr

theorem s_ixa (o : Oper) (ha : AR D ρ nt e a) (hs : Sim P ρ H w) {t el : TypeId} {sz n : Nat} {x i : Operand} {x' i' : Opd} (ho : o.op = .indexAddr t x i) (hx : Opd.of x = some x') (hi : Opd.of i = some i')
    (ht : P.underlying t = some (.array n el)) (hsz : sizeO P el = some sz)
    (hr : iIxa n sz (x'.v e) (i'.v e) H = some (v, H')) : Still P ρ H w H' v ((execOp a.eval o).run P w) := by
  have h1 := opd hx ha
  have h2 := opd hi ha
  generalize hxv : a.eval x = xv at h1
  generalize hiv : a.eval i = iv at h2
  generalize x'.v e = xa at hr h1
  generalize i'.v e = ia at hr h2
  unfold iIxa at hr
  split at hr
  · rename_i ad k i
    split at hr
    · rename_i j hj
      cases hr
      obtain ⟨rfl, rfl, hjn⟩ := ix_rel hj h2
      cases h1 with
      | ptr _ l hl hsp =>
        refine .still hs (v' := .pointer (some ((⟨l.blk, l.base + ad.off, none⟩ : Addr).add (j * sz)))) ?_ ?_
        · simp only [execOp, ho, hxv, hiv]
          refine run_val ?_
          have h3 : (0 : Int) ≤ (j : Int) ∧ (j : Int) < (n : Int) := ⟨by omega, by omega⟩
          simp [Instr.indexAt, asIntOf, run_underlying ht, Instr.sureAddr, h3, hjn, run_sizeOf hsz]
        · exact VR.movA hl hsp _
    · cases hr
  · cases hr

/-- A part of a struct's or an array's value. -/
theorem run_partV {t : TypeId} {b : Bool} {n off : Nat} {cs ccs : List Value} (hb : aggO P t = some b) (hn : sizeO P t = some n) (h : partV cs off (if b then some n else none) = some v) (hrel : VRL ρ cs ccs) (w : World) :
    ∃ v', (part t ⟨ccs⟩ off).run P w = .ok v' w ∧ VR ρ v v' := by
  have hag := run_isAgg hb w
  have hln := hrel.length
  cases b with
  | true =>
    simp only [if_true, partV] at h
    split at h
    · rename_i l hl
      cases h
      obtain ⟨hle, rfl, hlen, _⟩ := cut_some hl
      refine ⟨.agg ⟨(ccs.drop off).take n⟩, ?_, .agg _ _ ((hrel.drop off).take n)⟩
      have hext : (⟨ccs⟩ : Array Value).extract off (off + n) = ⟨(ccs.drop off).take n⟩ := by
        apply Array.ext'
        rw [Array.toList_extract]
        simp [List.extract]
      simp [part, hag, run_sizeOf hn, hext]
    · cases h
  | false =>
    simp only [Bool.false_eq_true, if_false, partV, cut_one] at h
    cases hg : cs[off]? with
    | none => rw [hg] at h; cases h
    | some u =>
      rw [hg] at h
      cases h
      obtain ⟨u', h1, h2⟩ := hrel.get _ _ hg
      refine ⟨u', ?_, h2⟩
      have : (⟨ccs⟩ : Array Value)[off]? = some u' := by simpa using h1
      simp [part, hag, this]

theorem s_fld (o : Oper) (ha : AR D ρ nt e a) (hs : Sim P ρ H w) {t : TypeId} {fs : Array Field} {f : Nat} {fd : Field} {b : Bool} {n : Nat} {x : Operand} {x' : Opd} (ho : o.op = .field t x f) (hx : Opd.of x = some x')
    (ht : P.underlying t = some (.struct fs)) (hf : fs[f]? = some fd) (hb : aggO P fd.type = some b) (hn : sizeO P fd.type = some n)
    (hr : iFld fd.offset (if b then some n else none) (x'.v e) H = some (v, H')) : Still P ρ H w H' v ((execOp a.eval o).run P w) := by
  have h1 := opd hx ha
  generalize hxv : a.eval x = xv at h1
  generalize x'.v e = xa at hr h1
  cases h1 with
  | agg l l' hl =>
    obtain ⟨hp, rfl⟩ := ret_some hr
    obtain ⟨v', hrun, hv⟩ := run_partV hb hn hp hl w
    refine .still hs ?_ hv
    simp only [execOp, ho, hxv]
    refine run_val ?_
    simp [Instr.field, run_underlying ht, hf, asAgg, hrun]
  | _ => cases hr

theorem s_ixg (o : Oper) (ha : AR D ρ nt e a) (hs : Sim P ρ H w) {t el : TypeId} {sz n : Nat} {b : Bool} {x i : Operand} {x' i' : Opd} (ho : o.op = .index t x i) (hx : Opd.of x = some x') (hi : Opd.of i = some i')
    (ht : P.underlying t = some (.array n el)) (hsz : sizeO P el = some sz) (hb : aggO P el = some b)
    (hr : iIxg n sz b (x'.v e) (i'.v e) H = some (v, H')) : Still P ρ H w H' v ((execOp a.eval o).run P w) := by
  have h1 := opd hx ha
  have h2 := opd hi ha
  generalize hxv : a.eval x = xv at h1
  generalize hiv : a.eval i = iv at h2
  generalize x'.v e = xa at hr h1
  generalize i'.v e = ia at hr h2
  unfold iIxg at hr
  split at hr
  · rename_i cs k i
    split at hr
    · rename_i j hj
      obtain ⟨hp, rfl⟩ := ret_some hr
      obtain ⟨rfl, rfl, hjn⟩ := ix_rel hj h2
      cases h1 with
      | agg l l' hl =>
        have hp' : partV l (j * sz) (if b then some sz else none) = some v := by cases b <;> exact hp
        obtain ⟨v', hrun, hv⟩ := run_partV hb hsz hp' hl w
        refine .still hs ?_ hv
        simp only [execOp, ho, hxv, hiv]
        refine run_val ?_
        have h3 : (0 : Int) ≤ (j : Int) ∧ (j : Int) < (n : Int) := ⟨by omega, by omega⟩
        simp [Instr.index, asIntOf, run_underlying ht, h3, hjn, run_sizeOf hsz, hrun]
    · cases hr
  · cases hr

theorem s_ixt (o : Oper) (ha : AR D ρ nt e a) (hs : Sim P ρ H w) {t : TypeId} {x i : Operand} {x' i' : Opd} (ho : o.op = .index t x i) (hx : Opd.of x = some x') (hi : Opd.of i = some i')
    (ht : P.underlying t = some .string)
    (hr : iIxt (x'.v e) (i'.v e) H = some (v, H')) : Still P ρ H w H' v ((execOp a.eval o).run P w) := by
  have h1 := opd hx ha
  have h2 := opd hi ha
  generalize hxv : a.eval x = xv at h1
  generalize hiv : a.eval i = iv at h2
  generalize x'.v e = xa at hr h1
  generalize i'.v e = ia at hr h2
  unfold iIxt at hr
  split at hr
  · rename_i s k i
    split at hr
    · rename_i j hj
      split at hr
      · rename_i b hb
        cases hr
        obtain ⟨rfl, rfl, hjn⟩ := ix_rel hj h2
        cases h1 with
        | string s =>
          refine .still hs ?_ (.int _ _)
          simp only [execOp, ho, hxv, hiv]
          refine run_val ?_
          have hlen : s.size = s.data.toList.length := by rw [Array.length_toList]; rfl
          have hget : s[(j : Int).toNat]? = some b := by
            have hlt : j < s.size := by omega
            simp only [Int.toNat_natCast]
            have hb' : s.data[j]? = some b := by simpa using hb
            have hlt' : j < s.data.size := hlt
            rw [Array.getElem?_eq_getElem hlt'] at hb'
            rw [getElem?_pos s j hlt]
            exact hb'
          have h3 : (0 : Int) ≤ (j : Int) := by omega
          simp only [Instr.index, asIntOf, run_underlying ht, Sem.run_bind, Sem.run_pure, Result.andThen_ok, h3, if_true, hget]
      · cases hr
    · cases hr
  · cases hr

theorem s_lens (o : Oper) (ha : AR D ρ nt e a) (hs : Sim P ρ H w) {t el u : TypeId} {x : Operand} {x' : Opd} (ho : o.op = .call { callee := .builtin .len, args := #[x], argTypes := #[t] }) (hx : Opd.of x = some x')
    (ht : P.underlying t = some (.slice el)) (hr : iLens (x'.v e) H = some (v, H')) : Still P ρ H w H' v ((execOp a.eval o).run P w) := by
  have h1 := opd hx ha
  generalize hxv : a.eval x = xv at h1
  generalize x'.v e = xa at hr h1
  have run : ∀ b n c, xv = .slice b n c → (execOp a.eval o).run P w = .ok (.value (.int .i64 n)) w := by
    intro b n c he
    subst he
    simp [execOp, ho, resolve, invoke, builtin, hxv, Builtin.len_, run_underlying ht, goInt]
  cases h1 with
  | slNil => cases hr; exact .still hs (run _ _ _ rfl) (.int _ _)
  | sl ad n c c' l hl hn hc hx fit => cases hr; exact .still hs (run _ _ _ rfl) (.int _ _)
  | sl0 ad b => cases hr; exact .still hs (run _ _ _ rfl) (.int _ _)
  | _ => cases hr

theorem s_lent (o : Oper) (ha : AR D ρ nt e a) (hs : Sim P ρ H w) {t u : TypeId} {x : Operand} {x' : Opd} (ho : o.op = .call { callee := .builtin .len, args := #[x], argTypes := #[t] }) (hx : Opd.of x = some x')
    (ht : P.underlying t = some .string) (hr : iLent (x'.v e) H = some (v, H')) : Still P ρ H w H' v ((execOp a.eval o).run P w) := by
  have h1 := opd hx ha
  generalize hxv : a.eval x = xv at h1
  generalize x'.v e = xa at hr h1
  cases h1 with
  | string s =>
    cases hr
    have hlen : s.size = s.data.toList.length := by rw [Array.length_toList]; rfl
    refine .still hs ?_ (.int _ _)
    rw [← hlen]
    simp [execOp, ho, resolve, invoke, builtin, hxv, Builtin.len_, run_underlying ht, goInt]
  | _ => cases hr

theorem s_lenm (o : Oper) (ha : AR D ρ nt e a) (hs : Sim P ρ H w) {t k el u : TypeId} {x : Operand} {x' : Opd} (ho : o.op = .call { callee := .builtin .len, args := #[x], argTypes := #[t] }) (hx : Opd.of x = some x')
    (ht : P.underlying t = some (.map k el)) (hr : iLenm (x'.v e) H = some (v, H')) : Still P ρ H w H' v ((execOp a.eval o).run P w) := by
  have h1 := opd hx ha
  generalize hxv : a.eval x = xv at h1
  generalize x'.v e = xa at hr h1
  cases h1 with
  | mapNil =>
    cases hr
    refine .still hs ?_ (.int _ _)
    simp [execOp, ho, resolve, invoke, builtin, hxv, Builtin.len_, run_underlying ht, goInt]
  | map r l hl =>
    simp only [iLenm] at hr
    split at hr
    · rename_i es he
      cases hr
      obtain ⟨ces, h2, h3⟩ := hs.blks _ _ _ hl he
      have hlen : ∀ {i : Nat} {l : List (Value × Value)} {l' : List MapEntry}, VRE ρ i l l' → l'.length = l.length := by
        intro i l l' h
        induction h with
        | nil => rfl
        | cons => simp_all
      have := hlen h3
      have hsz : ces.size = es.length := by simpa using this
      refine .still hs ?_ (.int _ _)
      have hgo : (getObj l.blk).run P w = .ok (.map ces es.length) w := by simp [getObj, Sem.run, h2]
      simp [execOp, ho, resolve, invoke, builtin, hxv, Builtin.len_, run_underlying ht, goInt, hgo, hsz]
    · cases hr
  | _ => cases hr

theorem s_caps (o : Oper) (ha : AR D ρ nt e a) (hs : Sim P ρ H w) {t el u : TypeId} {x : Operand} {x' : Opd} (ho : o.op = .call { callee := .builtin .cap, args := #[x], argTypes := #[t] }) (hx : Opd.of x = some x')
    (ht : P.underlying t = some (.slice el)) (hr : iCaps (x'.v e) H = some (v, H')) : Still P ρ H w H' v ((execOp a.eval o).run P w) := by
  have h1 := opd hx ha
  generalize hxv : a.eval x = xv at h1
  generalize x'.v e = xa at hr h1
  have run : ∀ b n c, xv = .slice b n c → (execOp a.eval o).run P w = .ok (.value (.int .i64 c)) w := by
    intro b n c he
    subst he
    simp [execOp, ho, resolve, invoke, builtin, hxv, Builtin.cap_, run_underlying ht, goInt]
  cases h1 with
  | slNil => cases hr; exact .still hs (run _ _ _ rfl) (.int _ _)
  | sl ad n c c' l hl hn hc hx fit =>
    cases hr
    refine .still hs (run _ _ _ rfl) ?_
    cases hsp : ad.spot with
    | none => exact .cap c c' hc
    | some s => rw [hx (by rw [hsp]; simp)]; exact .int _ _
  | sl0 ad b =>
    cases hr
    refine .still hs (run _ _ _ rfl) ?_
    cases hsp : ad.spot with
    | none => exact .cap 0 0 (Nat.le_refl _)
    | some s => exact .int _ _
  | _ => cases hr

theorem mmL_run {mx : Bool} : ∀ {l l' : List Value} {x x' : Value}, mmL mx x l = some v → VR ρ x x' → VRL ρ l l' → ∀ w : World, ∃ v', (l'.foldlM (if mx then Builtin.max2 else Builtin.min2) x').run P w = .ok v' w ∧ VR ρ v v'
  | [], _, x, x', h, hx, .nil, w => by cases h; exact ⟨x', by simp, hx⟩
  | y :: l, _, x, x', h, hx, .cons _ y' _ l' hy hl, w => by
    simp only [mmL] at h
    split at h
    · rename_i z hz
      unfold mm2 at hz
      split at hz
      · rename_i k p k' q
        obtain ⟨hk, hz'⟩ := bifS hz
        clear hz
        obtain rfl := sameKind_iff hk
        cases hz'
        cases hx
        cases hy
        obtain ⟨v', hrun, hv⟩ := mmL_run h (.int _ _) hl w
        refine ⟨v', ?_, hv⟩
        rw [List.foldlM_cons]
        simp only [Sem.run_bind]
        cases mx
        · simp only [Bool.false_eq_true, if_false] at hrun ⊢
          have : (Builtin.min2 (.int k p) (.int k q)).run P w = .ok (.int k (bif ltI q p then q else p)) w := by
            rw [ltI_eq]
            by_cases hlt : q < p <;> simp [Builtin.min2, hlt]
          rw [this]
          exact hrun
        · simp only [if_true] at hrun ⊢
          have : (Builtin.max2 (.int k p) (.int k q)).run P w = .ok (.int k (bif ltI p q then q else p)) w := by
            rw [ltI_eq]
            by_cases hlt : p < q <;> simp [Builtin.max2, hlt]
          rw [this]
          exact hrun
      · cases hz
    · cases h

theorem s_minmax (o : Oper) (ha : AR D ρ nt e a) (hs : Sim P ρ H w) {mx : Bool} {c : Call} {xs : List Opd} (ho : o.op = .call c) (hc : c.callee = .builtin (if mx then .max else .min)) (hx : opdL c.args.toList = some xs)
    (hr : iMinmax mx (vL e xs) H = some (v, H')) : Still P ρ H w H' v ((execOp a.eval o).run P w) := by
  have h1 := opdL_rel hx ha
  generalize vL e xs = l at hr h1
  generalize hl' : c.args.toList.map a.eval = l' at h1
  cases h1 with
  | nil => cases hr
  | cons x x' l l' h2 h3 =>
    obtain ⟨h, rfl⟩ := ret_some hr
    obtain ⟨v', hrun, hv⟩ := mmL_run (P := P) h h2 h3 w
    refine .still hs ?_ hv
    have harr : c.args.map a.eval = (x' :: l').toArray := by
      apply Array.ext'
      simpa using hl'
    cases mx
    · simp only [Bool.false_eq_true, if_false] at hrun hc
      simp [execOp, ho, resolve, hc, invoke, builtin, harr, Builtin.min_, hrun]
    · simp only [if_true] at hrun hc
      simp [execOp, ho, resolve, hc, invoke, builtin, harr, Builtin.max_, hrun]

theorem s_ext (o : Oper) (ha : AR D ρ nt e a) (hs : Sim P ρ H w) {i : Nat} {x : Operand} {x' : Opd} (ho : o.op = .extract x i) (hx : Opd.of x = some x')
    (hr : iExt i (x'.v e) H = some (v, H')) : Still P ρ H w H' v ((execOp a.eval o).run P w) := by
  have h1 := opd hx ha
  generalize hxv : a.eval x = xv at h1
  generalize x'.v e = xa at hr h1
  cases h1 with
  | tuple l l' hl =>
    simp only [iExt] at hr
    split at hr
    · rename_i u hu
      cases hr
      obtain ⟨u', h2, h3⟩ := hl.get _ _ hu
      refine .still hs ?_ h3
      have : (⟨l'⟩ : Array Value)[i]? = some u' := by simpa using h2
      simp [execOp, ho, hxv, Instr.extract, this]
    · cases hr
  | _ => cases hr

theorem s_mkf (o : Oper) (ha : AR D ρ nt e a) (hs : Sim P ρ H w) {fn : Fn} {xs ys : Array Operand} {xs' ys' : List Opd} (ho : o.op = .makeFunc fn xs ys) (hx : opdL xs.toList = some xs') (hy : opdL ys.toList = some ys') :
    Still P ρ H w H (.func fn ⟨vL e xs'⟩ ⟨vL e ys'⟩) ((execOp a.eval o).run P w) := by
  refine .still hs (v' := .func fn ⟨xs.toList.map a.eval⟩ ⟨ys.toList.map a.eval⟩) ?_ (.func _ _ _ _ _ (opdL_rel hx ha) (opdL_rel hy ha))
  have e1 : xs.map a.eval = ⟨xs.toList.map a.eval⟩ := by apply Array.ext'; simp
  have e2 : ys.map a.eval = ⟨ys.toList.map a.eval⟩ := by apply Array.ext'; simp
  simp [execOp, ho, Instr.makeFunc, e1, e2]

theorem s_mki (o : Oper) (ha : AR D ρ nt e a) (hs : Sim P ρ H w) {t : TypeId} {d : TypeDesc} {x : Operand} {x' : Opd} (ho : o.op = .makeInterface t x) (hx : Opd.of x = some x') (hd : P.underlying t = some d) (hni : ∀ ms, d ≠ .interface ms) :
    Still P ρ H w H (.iface t (x'.v e)) ((execOp a.eval o).run P w) := by
  refine .still hs (v' := .iface t (a.eval x)) ?_ (.iface _ _ _ (opd hx ha))
  simp only [execOp, ho]
  refine run_val ?_
  cases d <;> simp [Instr.makeInterface, run_underlying hd]
  exact absurd rfl (hni _)

end Go.Rx
