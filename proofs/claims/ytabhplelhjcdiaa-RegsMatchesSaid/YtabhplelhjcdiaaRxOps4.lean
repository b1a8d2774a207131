/- Each operation of the abstract machine is the real one's: tests, addresses, slices. -/
import Derived.Test.YtabhplelhjcdiaaRxEq
import Derived.Laws.Slices
/- Each operation of the abstract machine is the real one's: tests, addresses, slices. -/
set_option linter.unusedVariables false
set_option linter.unusedSimpArgs false
namespace Go.Rx

variable {D : List Deferred}
variable {P : Program} {ρ : Ren} {H H' : Heap} {w : World} {e : Env} {a : Act} {nt : Nat} {v : Value}

theorem ret_some {x : Option Value} (h : ret H x = some (v, H')) : x = some v ∧ H' = H := by
  cases x with
  | none => cases h
  | some u => cases h; exact ⟨rfl, rfl⟩

theorem s_nilchk (o : Oper) (ha : AR D ρ nt e a) (hs : Sim P ρ H w) {x : Operand} {y : Opd} (ho : o.op = .nilCheck x) (hy : Opd.of x = some y) (hr : iNilchk (y.v e) H = some (v, H')) :
    Still P ρ H w H' v ((execOp a.eval o).run P w) := by
  have hx := opd hy ha
  generalize y.v e = ya at hr hx
  generalize hax : a.eval x = xv at hx
  cases hx with
  | ptr ad l hl hsp => cases hr; exact .still hs (by simp [execOp, ho, hax]) (.ptr _ l hl hsp)
  | func f a1 b1 a2 b2 h1 h2 =>
    cases f with
    | func f => cases hr; exact .still hs (by simp [execOp, ho, hax]) (.func _ _ _ _ _ h1 h2)
    | _ => cases hr
  | _ => cases hr

theorem s_bin (o : Oper) (ha : AR D ρ nt e a) (hs : Sim P ρ H w) {op : BinOp} {t u : TypeId} {x y : Operand} {x' y' : Opd} (ho : o.op = .binOp op t x y u) (hx : Opd.of x = some x') (hy : Opd.of y = some y')
    (hr : ret H (binV op (x'.v e) (y'.v e)) = some (v, H')) : Still P ρ H w H' v ((execOp a.eval o).run P w) := by
  obtain ⟨h1, rfl⟩ := ret_some hr
  obtain ⟨v', hrun, hv⟩ := binV_run h1 (opd hx ha) (opd hy ha) t x y w
  refine .still hs (v' := v') ?_ hv
  simp only [execOp, ho]
  exact run_val hrun

/-! ### '==' on cells -/
section
variable {t : TypeId} {xa ya xv yv : Value} {c : Bool} {D : Nat}
theorem eq0 (hu : P.underlying t = some .bool) (hc : eqC 0 xa ya = some c) (hx : VR ρ xa xv) (hy : VR ρ ya yv) : (Op.equalIn (D + 1) t xv yv).run P w = .ok c w := by
  cases hx with
  | bool p =>
    cases hy with
    | bool q => simp [eqC, capLB] at hc; subst hc; exact run_equalIn_bool' w D t p q hu
    | _ => simp [eqC, capLB] at hc
  | _ => simp [eqC, capLB] at hc
theorem eq1 {p : TypeId} (hu : P.underlying t = some (.pointer p)) (hc : eqC 1 xa ya = some c) (hx : VR ρ xa xv) (hy : VR ρ ya yv) : (Op.equalIn (D + 1) t xv yv).run P w = .ok c w := by
  cases hx with
  | ptrNil =>
    cases hy with
    | ptrNil => simp [eqC, capLB] at hc; subst hc; simp [Op.equalIn, run_underlying hu]
    | ptr ad l h1 h2 => simp [eqC, capLB] at hc; subst hc; simp [Op.equalIn, run_underlying hu]
    | _ => simp [eqC, capLB] at hc
  | ptr ad l h1 h2 =>
    cases hy with
    | ptrNil => simp [eqC, capLB] at hc; subst hc; simp [Op.equalIn, run_underlying hu]
    | _ => simp [eqC, capLB] at hc
  | _ => simp [eqC, capLB] at hc
theorem eq2 {ms : Array (String × TypeId)} (hu : P.underlying t = some (.interface ms)) (hc : eqC 2 xa ya = some c) (hx : VR ρ xa xv) (hy : VR ρ ya yv) : (Op.equalIn (D + 1) t xv yv).run P w = .ok c w := by
  cases hx with
  | nilIface =>
    cases hy with
    | nilIface => simp [eqC, capLB] at hc; subst hc; simp [Op.equalIn, run_underlying hu]
    | iface u v v' h => simp [eqC, capLB] at hc; subst hc; simp [Op.equalIn, run_underlying hu]
    | _ => simp [eqC, capLB] at hc
  | iface u v v' h =>
    cases hy with
    | nilIface => simp [eqC, capLB] at hc; subst hc; simp [Op.equalIn, run_underlying hu]
    | _ => simp [eqC, capLB] at hc
  | _ => simp [eqC, capLB] at hc
theorem eq3 {p : TypeId} (hu : P.underlying t = some (.slice p)) (hc : eqC 3 xa ya = some c) (hx : VR ρ xa xv) (hy : VR ρ ya yv) : (Op.equalIn (D + 1) t xv yv).run P w = .ok c w := by
  cases hx with
  | slNil =>
    cases hy with
    | slNil => simp [eqC, capLB] at hc; subst hc; simp [Op.equalIn, run_underlying hu]
    | sl ad n c1 c2 l h1 h2 h3 h4 h5 => simp [eqC, capLB] at hc; subst hc; simp [Op.equalIn, run_underlying hu]
    | sl0 ad b => simp [eqC, capLB] at hc; subst hc; simp [Op.equalIn, run_underlying hu]
    | _ => simp [eqC, capLB] at hc
  | sl ad n c1 c2 l h1 h2 h3 h4 h5 =>
    cases hy with
    | slNil => simp [eqC, capLB] at hc; subst hc; simp [Op.equalIn, run_underlying hu]
    | _ => simp [eqC, capLB] at hc
  | sl0 ad b =>
    cases hy with
    | slNil => simp [eqC, capLB] at hc; subst hc; simp [Op.equalIn, run_underlying hu]
    | _ => simp [eqC, capLB] at hc
  | _ => simp [eqC, capLB] at hc
theorem eq4 {p q : TypeId} (hu : P.underlying t = some (.map p q)) (hc : eqC 4 xa ya = some c) (hx : VR ρ xa xv) (hy : VR ρ ya yv) : (Op.equalIn (D + 1) t xv yv).run P w = .ok c w := by
  cases hx with
  | mapNil =>
    cases hy with
    | mapNil => simp [eqC, capLB] at hc; subst hc; simp [Op.equalIn, run_underlying hu]
    | map r l h => simp [eqC, capLB] at hc; subst hc; simp [Op.equalIn, run_underlying hu]
    | _ => simp [eqC, capLB] at hc
  | map r l h =>
    cases hy with
    | mapNil => simp [eqC, capLB] at hc; subst hc; simp [Op.equalIn, run_underlying hu]
    | _ => simp [eqC, capLB] at hc
  | _ => simp [eqC, capLB] at hc
theorem eq5 {ps rs : Array TypeId} {b : Bool} (hu : P.underlying t = some (.func ps rs b)) (hc : eqC 5 xa ya = some c) (hx : VR ρ xa xv) (hy : VR ρ ya yv) : (Op.equalIn (D + 1) t xv yv).run P w = .ok c w := by
  cases hx with
  | nilFunc =>
    cases hy with
    | nilFunc => simp [eqC, capLB] at hc; subst hc; simp [Op.equalIn, run_underlying hu]
    | func f a1 b1 a2 b2 h1 h2 => simp [eqC, capLB] at hc; subst hc; simp [Op.equalIn, run_underlying hu]
    | _ => simp [eqC, capLB] at hc
  | func f a1 b1 a2 b2 h1 h2 =>
    cases hy with
    | nilFunc => simp [eqC, capLB] at hc; subst hc; simp [Op.equalIn, run_underlying hu]
    | _ => simp [eqC, capLB] at hc
  | _ => simp [eqC, capLB] at hc
end

def isK : Operand → Bool
  | .const _ => true
  | _ => false
theorem guard_no {op : BinOp} {t : TypeId} {X Y : Operand} {p q : Value} (h1 : p = .nilIface → q = .nilIface → (isK X || isK Y) = true) (h2 : ∀ l, p ≠ .agg l) (w : World) : (eqGuard op t X Y p q).run P w = .ok () w := by
  by_cases hp : p = .nilIface
  · subst hp
    by_cases hq : q = .nilIface
    · subst hq
      have := h1 rfl rfl
      cases op <;> first | rfl | (cases X <;> cases Y <;> first | rfl | (simp [isK] at this))
    · cases op <;> first | rfl | (cases q <;> first | rfl | exact absurd rfl hq)
  · cases op <;> first | rfl | (cases p <;> first | exact absurd rfl hp | exact absurd rfl (h2 _) | rfl | (cases q <;> rfl))

theorem const_nil {X : Operand} {x : Opd} (h : Opd.of X = some x) (hx : x = .k .nilIface) : isK X = true := by
  subst hx
  cases X with
  | const v => rfl
  | tmp n => cases h
  | global g => cases h
  | func f => cases h

theorem eqC_shape {k : Nat} {xa ya xv : Value} {c : Bool} (hc : eqC k xa ya = some c) (hx : VR ρ xa xv) :
    (∀ l, xv ≠ .agg l) ∧ (∀ q1 q2, xv ≠ .int q1 q2) ∧ (∀ s, xv ≠ .string s) ∧ (∀ k n, xv ≠ .float k n) ∧ (∀ k n m, xv ≠ .complex k n m) ∧ (k ≠ 2 → xv ≠ .nilIface) := by
  cases hx with
  | nilIface =>
    refine ⟨by simp, by simp, by simp, by simp, by simp, fun hk => ?_⟩
    unfold eqC at hc
    split at hc <;> simp_all
  | int => simp [eqC] at hc
  | cap => simp [eqC, capLB] at hc
  | string => simp [eqC] at hc
  | agg => simp [eqC] at hc
  | _ => refine ⟨by simp, by simp, by simp, by simp, by simp, by simp⟩

theorem s_eqc (o : Oper) (ha : AR D ρ nt e a) (hs : Sim P ρ H w) {op : BinOp} {neg : Bool} {k : Nat} {d : TypeDesc} {t u : TypeId} {x y : Operand} {x' y' : Opd} (ho : o.op = .binOp op t x y u) (hx : Opd.of x = some x') (hy : Opd.of y = some y')
    (hd : P.underlying t = some d) (hk : eqKind d x' y' = some k) (hop : op = if neg then .neq else .eql)
    (hr : iEqc k neg (x'.v e) (y'.v e) H = some (v, H')) : Still P ρ H w H' v ((execOp a.eval o).run P w) := by
  unfold iEqc at hr
  split at hr
  · rename_i c hc
    cases hr
    have h1 := opd hx ha
    have h2 := opd hy ha
    obtain ⟨hna, hni, hns, hnf, hnc, hnil⟩ := eqC_shape hc h1
    have key : (Op.equalIn (9999 + 1) t (a.eval x) (a.eval y)).run P w = .ok c w ∧ (k = 2 → (isK x || isK y) = true) := by
      cases d <;> simp only [eqKind, Option.some.injEq, reduceCtorEq] at hk
      case bool => subst hk; exact ⟨eq0 hd hc h1 h2, by simp⟩
      case pointer p => subst hk; exact ⟨eq1 hd hc h1 h2, by simp⟩
      case interface ms =>
        have hcst : (isK x || isK y) = true := by
          split at hk
          · rw [const_nil hx rfl]; rfl
          · rw [const_nil hy rfl]; simp
          · cases hk
        have hk2 : k = 2 := by split at hk <;> first | (cases hk; rfl) | cases hk
        subst hk2
        exact ⟨eq2 hd hc h1 h2, fun _ => hcst⟩
      case slice p => subst hk; exact ⟨eq3 hd hc h1 h2, by simp⟩
      case map p q => subst hk; exact ⟨eq4 hd hc h1 h2, by simp⟩
      case func p q r => subst hk; exact ⟨eq5 hd hc h1 h2, by simp⟩
    obtain ⟨hrun, hg2⟩ := key
    have hg : a.eval x = .nilIface → a.eval y = .nilIface → (isK x || isK y) = true := fun h _ => by
      by_cases hk2 : k = 2
      · exact hg2 hk2
      · exact absurd h (hnil hk2)
    have hgd := guard_no (P := P) (op := op) (t := t) (X := x) (Y := y) hg hna w
    refine .still hs (v' := .bool (bif neg then !c else c)) ?_ (.bool _)
    simp only [execOp, ho]
    refine run_val ?_
    simp only [Sem.run_bind, hgd, Result.andThen_ok]
    have hrun' : (Op.equal t (a.eval x) (a.eval y)).run P w = .ok c w := hrun
    have hbin : ∀ b : Bool, binOp (if b then .neq else .eql) t (a.eval x) (a.eval y) = if b then (do pure (.bool (!(← Op.equal t (a.eval x) (a.eval y))))) else (do pure (.bool (← Op.equal t (a.eval x) (a.eval y)))) := by
      intro b
      generalize a.eval x = p at *
      generalize a.eval y = q at *
      cases b <;> cases p <;> cases q <;> first
        | rfl
        | exact absurd rfl (hni _ _)
        | exact absurd rfl (hns _)
        | exact absurd rfl (hnf _ _)
        | exact absurd rfl (hnc _ _ _)
    rw [hop, hbin]
    cases neg <;> simp [hrun']
  · cases hr

end Go.Rx
