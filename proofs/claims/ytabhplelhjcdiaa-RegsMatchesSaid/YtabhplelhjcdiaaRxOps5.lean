/- Each operation of the abstract machine is the real one's: structs compared, conversions, addresses. -/
import Derived.Test.YtabhplelhjcdiaaRxOps4
/- Each operation of the abstract machine is the real one's: structs compared, conversions, addresses. -/
set_option linter.unusedVariables false
set_option linter.unusedSimpArgs false
namespace Go.Rx

variable {D : List Deferred}
variable {P : Program} {ρ : Ren} {H H' : Heap} {w : World} {e : Env} {a : Act} {nt : Nat} {v : Value}

theorem eqP_rel {k : Nat} {x y x' y' : Value} {c : Bool} (h : eqP k x y = some c) (hx : VR ρ x x') (hy : VR ρ y y') : x' = x ∧ y' = y := by
  unfold eqP at h
  split at h
  · cases hx; cases hy; exact ⟨rfl, rfl⟩
  · cases hx; cases hy; exact ⟨rfl, rfl⟩
  · cases hx; cases hy; exact ⟨rfl, rfl⟩
  · cases h
theorem eqL_rel : ∀ (ks : List Nat) (X Y X' Y' : List Value) (c : Bool), eqL ks X Y = some c → VRL ρ X X' → VRL ρ Y Y' → X' = X ∧ Y' = Y := by
  intro ks
  induction ks with
  | nil =>
    intro X Y X' Y' c h hX hY
    cases hX <;> cases hY <;> first | exact ⟨rfl, rfl⟩ | simp [eqL] at h
  | cons k ks ih =>
    intro X Y X' Y' c h hX hY
    cases hX with
    | nil => cases hY <;> simp [eqL] at h
    | cons x x' X X' hx hX =>
      cases hY with
      | nil => simp [eqL] at h
      | cons y y' Y Y' hy hY =>
        simp only [eqL] at h
        cases hp : eqP k x y with
        | none => rw [hp] at h; cases h
        | some p =>
          cases hq : eqL ks X Y with
          | none => simp [hp, hq] at h
          | some q =>
            obtain ⟨rfl, rfl⟩ := eqP_rel hp hx hy
            obtain ⟨rfl, rfl⟩ := ih _ _ _ _ _ hq hX hY
            exact ⟨rfl, rfl⟩

theorem mkV_agg {t : TypeId} {d : TypeDesc} (hd : P.underlying t = some d) (hg : isAggB d = true) (X : List Value) : mkV P t X = .agg ⟨X⟩ := by
  cases d <;> simp [isAggB] at hg <;> simp [mkV, hd]

theorem s_eqa (o : Oper) (ha : AR D ρ nt e a) (hs : Sim P ρ H w) (hdep : 50 ≤ P.depth) {op : BinOp} {neg : Bool} {ks : List Nat} {d : TypeDesc} {t u : TypeId} {x y : Operand} {x' y' : Opd} (ho : o.op = .binOp op t x y u) (hx : Opd.of x = some x') (hy : Opd.of y = some y')
    (hd : P.underlying t = some d) (hg : isAggB d = true) (hk : leafs P 50 t = some ks) (hop : op = if neg then .neq else .eql)
    (hr : iEqa ks neg (x'.v e) (y'.v e) H = some (v, H')) : Still P ρ H w H' v ((execOp a.eval o).run P w) := by
  have h1 := opd hx ha
  have h2 := opd hy ha
  unfold iEqa at hr
  split at hr
  · rename_i p q hxa hya
    split at hr
    · rename_i c hc
      cases hr
      rw [hxa] at h1
      rw [hya] at h2
      generalize hxv : a.eval x = xv at h1
      generalize hyv : a.eval y = yv at h2
      cases h1 with
      | agg l l' hl =>
        cases h2 with
        | agg m m' hm =>
          obtain ⟨rfl, rfl⟩ := eqL_rel _ _ _ _ _ _ hc hl hm
          have heq := eq_leafs 50 10000 (by omega) t ks hk w _ _ c hc
          rw [mkV_agg hd hg, mkV_agg hd hg] at heq
          have hgd : P.eqGuardType P.depth t = false := guard_leafs 50 P.depth hdep t ks hk
          refine .still hs (v' := .bool (bif neg then !c else c)) ?_ (.bool _)
          simp only [execOp, ho, hxv, hyv]
          refine run_val ?_
          simp only [Sem.run_bind, run_eqGuard_agg w op t x y _ _ hgd, Result.andThen_ok]
          subst hop
          cases neg
          · simp only [Bool.false_eq_true, if_false, run_eql_struct, heq, Result.andThen_ok, cond_false]
          · simp only [if_true, run_neq_struct, heq, Result.andThen_ok, cond_true]
    · cases hr
  · cases hr

theorem s_un (o : Oper) (ha : AR D ρ nt e a) (hs : Sim P ρ H w) {op : UnOp} {t : TypeId} {x : Operand} {x' : Opd} (ho : o.op = .unOp op t x) (hx : Opd.of x = some x')
    (hr : ret H (unV op (x'.v e)) = some (v, H')) : Still P ρ H w H' v ((execOp a.eval o).run P w) := by
  obtain ⟨h, rfl⟩ := ret_some hr
  have h1 := opd hx ha
  generalize hxv : a.eval x = xv at h1
  generalize x'.v e = xa at h h1
  unfold unV at h
  split at h
  · cases h; cases h1
    refine .still hs ?_ (.int _ _)
    simp only [execOp, ho, hxv]
    refine run_val ?_
    rw [wrapK_eq, show ∀ n : Int, Int.sub 0 n = 0 - n from fun _ => rfl]
    simp [Op.unary, Op.intArith]
  · cases h; cases h1
    refine .still hs ?_ (.int _ _)
    simp only [execOp, ho, hxv]
    refine run_val ?_
    simp [Op.unary, Op.intBits]
  · cases h; cases h1
    refine .still hs ?_ (.bool _)
    simp only [execOp, ho, hxv]
    refine run_val ?_
    simp [Op.unary]
  · cases h

theorem s_conv (o : Oper) (ha : AR D ρ nt e a) (hs : Sim P ρ H w) {s d : TypeId} {k0 k : IntKind} {x : Operand} {x' : Opd} (ho : o.op = .convert s d x) (hx : Opd.of x = some x') (h0 : P.underlying s = some (.int k0)) (h1 : P.underlying d = some (.int k))
    (hr : iConv k (x'.v e) H = some (v, H')) : Still P ρ H w H' v ((execOp a.eval o).run P w) := by
  have hv := opd hx ha
  generalize hxv : a.eval x = xv at hv
  generalize x'.v e = xa at hr hv
  unfold iConv at hr
  split at hr
  · cases hr; cases hv
    refine .still hs ?_ (.int _ _)
    simp only [execOp, ho, hxv]
    refine run_val ?_
    rw [wrapK_eq]
    simp [convert, run_underlying h0, run_underlying h1, Conv.intToInt]
  · cases hr

theorem s_convs (o : Oper) (ha : AR D ρ nt e a) (hs : Sim P ρ H w) {s d : TypeId} {x : Operand} {x' : Opd} (ho : o.op = .convert s d x) (hx : Opd.of x = some x') (h0 : P.underlying s = some .string) (h1 : P.underlying d = some .string)
    (hr : iConvs (x'.v e) H = some (v, H')) : Still P ρ H w H' v ((execOp a.eval o).run P w) := by
  have hv := opd hx ha
  generalize hxv : a.eval x = xv at hv
  generalize x'.v e = xa at hr hv
  unfold iConvs at hr
  split at hr
  · cases hr; cases hv
    refine .still hs ?_ (.string _)
    simp only [execOp, ho, hxv]
    refine run_val ?_
    simp [convert, run_underlying h0, run_underlying h1]
  · cases hr

theorem movA_add (ad : Addr) (n : Nat) (h : ad.spot = none) : movA ad n = ⟨ad.block, ad.off + n, none⟩ := by
  unfold movA
  cases hb : Nat.beq n 0 with
  | true =>
    have := Nat.eq_of_beq_eq_true hb
    subst this
    cases ad
    simp at h
    simp [h]
  | false => simp [h]

theorem VR.movA {ad : Addr} {l : Loc} (h : ρ ad.block = some l) (hs : ad.spot = none) (n : Nat) : VR ρ (.pointer (some (movA ad n))) (.pointer (some ((⟨l.blk, l.base + ad.off, none⟩ : Addr).add n))) := by
  rw [movA_add ad n hs, Addr.add_place, Nat.add_assoc]
  exact .ptr ⟨ad.block, ad.off + n, none⟩ l h rfl

theorem s_fadr (o : Oper) (ha : AR D ρ nt e a) (hs : Sim P ρ H w) {t : TypeId} {fs : Array Field} {f : Nat} {fd : Field} {x : Operand} {x' : Opd} (ho : o.op = .fieldAddr t x f) (hx : Opd.of x = some x') (ht : P.underlying t = some (.struct fs)) (hf : fs[f]? = some fd)
    {n : Nat} (hsz : sizeO P fd.type = some (n + 1))
    (hr : iFadr (x'.v e) fd.offset H = some (v, H')) : Still P ρ H w H' v ((execOp a.eval o).run P w) := by
  have hv := opd hx ha
  generalize hxv : a.eval x = xv at hv
  generalize x'.v e = xa at hr hv
  cases hv with
  | ptr ad l hl hsp =>
    cases hr
    refine .still hs ?_ (.movA hl hsp _)
    simp only [execOp, ho, hxv]
    refine run_val ?_
    simp [Instr.fieldAt, run_underlying ht, hf, Instr.sureAddr, fieldPlace, run_sizeOf hsz]
  | _ => cases hr

end Go.Rx
