/- Every operation of the abstract machine is the real one's. -/
import Derived.Test.YtabhplelhjcdiaaRxMap2
/- Every operation of the abstract machine is the real one's. -/
set_option linter.unusedVariables false
set_option linter.unusedSimpArgs false
namespace Go.Rx

variable {D : List Deferred}
variable {P : Program} {ρ : Ren} {H H' : Heap} {w : World} {e : Env} {a : Act} {nt : Nat} {v : Value}

theorem s_lena (o : Oper) (ha : AR D ρ nt e a) (hs : Sim P ρ H w) {t el : TypeId} {n : Nat} {x : Operand} (ho : o.op = .call { callee := .builtin .len, args := #[x], argTypes := #[t] })
    (ht : P.underlying t = some (.array n el)) : Still P ρ H w H (.int .i64 n) ((execOp a.eval o).run P w) := by
  refine .still hs ?_ (.int _ _)
  simp [execOp, ho, resolve, invoke, builtin, Builtin.len_, run_underlying ht, goInt]

/-- A call of a function, from where the abstract one says what it answers. -/
def FSound (P : Program) (ff : Nat → List Value → Heap → R) : Prop :=
  ∀ (f : Nat) (args : List Value) (H : Heap) (v : Value) (H' : Heap), ff f args H = some (v, H') →
    (∃ fn, P.funcs[f]? = some fn ∧ fn.name ≠ "runtime.NumGoroutine" ∧ fn.body.isSome = true) ∧
    ∀ (ρ : Ren) (w : World) (args' : List Value), Sim P ρ H w → VRL ρ args args' →
      Calls P f ⟨args'⟩ w (fun | .returned v', w' => ∃ ρ', VR ρ' v v' ∧ Sim P ρ' H' w' ∧ Stp ρ H w ρ' H' w' | _, _ => False)

/-- What an operation yields, in the logic of steps. -/
def Core (P : Program) (ρ : Ren) (H : Heap) (w : World) (H' : Heap) (v : Value) (r : Result Next) : Prop :=
  ∀ (o : Oper) (a : Act) (next : Act → World → Prop) (Q : Exit → Act → World → Prop), (∀ ρ' v' w', VR ρ' v v' → Sim P ρ' H' w' → Stp ρ H w ρ' H' w' → next (a.put o.dst v') w') → o.upon P a next Q r

theorem Good.core {r : Result Next} (h : Good P ρ H w H' v r) : Core P ρ H w H' v r := by
  intro o a next Q hk
  obtain ⟨ρ', v', w', hr, hv, hsim, hstp⟩ := h
  have := hk ρ' v' w' hv hsim hstp
  rcases hr with hr | ⟨hr, rfl⟩
  · rw [hr]; exact this
  · rw [hr]; exact this

/-- Those that only look at memory leave the world alone. -/
def Both (n : Nat) (P : Program) (ρ : Ren) (H : Heap) (w : World) (H' : Heap) (v : Value) (r : Result Next) : Prop := (n ≤ 1 → Still P ρ H w H' v r) ∧ Core P ρ H w H' v r
theorem Still.both {n : Nat} {r : Result Next} (h : Still P ρ H w H' v r) : Both n P ρ H w H' v r := ⟨fun _ => h, h.good.core⟩
theorem Good.both {n : Nat} {r : Result Next} (h : Good P ρ H w H' v r) (hn : 1 < n) : Both n P ρ H w H' v r := ⟨fun h => absurd h (by omega), h.core⟩
theorem Core.both {n : Nat} {r : Result Next} (h : Core P ρ H w H' v r) (hn : 1 < n) : Both n P ρ H w H' v r := ⟨fun h => absurd h (by omega), h⟩

theorem call_core {ff : Nat → List Value → Heap → R} (hF : FSound P ff) {o : Oper} {f : Nat} {args args' : List Value} (hs : Sim P ρ H w) (hr : ff f args H = some (v, H')) (hargs : VRL ρ args args')
    (hexec : ∀ fn, P.funcs[f]? = some fn → fn.name ≠ "runtime.NumGoroutine" → fn.body.isSome = true → (execOp a.eval o).run P w = .ok (.enter f ⟨args'⟩) w) : Core P ρ H w H' v ((execOp a.eval o).run P w) := by
  intro o1 a1 next Q hk
  obtain ⟨⟨fn, h1, h2, h3⟩, h4⟩ := hF f args H v H' hr
  rw [hexec fn h1 h2 h3]
  refine Calls.mono (h4 ρ w args' hs hargs) ?_
  intro e w' he
  cases e with
  | returned v' =>
    obtain ⟨ρ', e1, e2, e3⟩ := he
    exact hk ρ' v' w' e1 e2 e3
  | _ => exact he.elim

theorem run_callFunc {f : Nat} {fn : Func} (h1 : P.funcs[f]? = some fn) (h2 : fn.name ≠ "runtime.NumGoroutine") (h3 : fn.body.isSome = true) (args : Array Value) (w : World) : (callFunc f args).run P w = .ok (.enter f args) w := by
  cases hb : fn.body with
  | none => rw [hb] at h3; cases h3
  | some c => simp [callFunc, h1, h2, hb]

theorem opdL_one {xs : List Operand} {x' : Opd} (h : opdL xs = some [x']) : ∃ x, xs = [x] ∧ Opd.of x = some x' := by
  match xs with
  | [] => cases h
  | x :: r =>
    simp only [opdL] at h
    split at h
    · rename_i y l hy hl
      cases h
      match r with
      | [] => exact ⟨x, rfl, hy⟩
      | z :: r =>
        simp only [opdL] at hl
        split at hl <;> cases hl
    · cases h
theorem opdL_two {xs : List Operand} {x' y' : Opd} (h : opdL xs = some [x', y']) : ∃ x y, xs = [x, y] ∧ Opd.of x = some x' ∧ Opd.of y = some y' := by
  match xs with
  | [] => cases h
  | x :: r =>
    simp only [opdL] at h
    split at h
    · rename_i z l hz hl
      cases h
      obtain ⟨y, rfl, hy⟩ := opdL_one hl
      exact ⟨x, y, rfl, hz, hy⟩
    · cases h

theorem call_form {c : Call} {b : Builtin} {xs : List Operand} {ts : List TypeId} (h1 : c.callee = .builtin b) (h2 : c.args.toList = xs) (h3 : c.argTypes.toList = ts) : c = { callee := .builtin b, args := ⟨xs⟩, argTypes := ⟨ts⟩ } := by
  cases c with
  | mk callee args argTypes =>
    simp only at h1 h2 h3
    subst h1
    have e1 : args = ⟨xs⟩ := Array.ext' h2
    have e2 : argTypes = ⟨ts⟩ := Array.ext' h3
    rw [e1, e2]

theorem builtin_sound (hdep : 50 ≤ P.depth) {ev : Ev} {o : Oper} {c : Call} {b : Builtin} {as : List Opd} {ins : Ins} (ho : o.op = .call c) (hcl : c.callee = .builtin b) (has : opdL c.args.toList = some as) (hi : insBuiltin P b c.argTypes.toList as = some ins)
    (ha : AR D ρ nt e a) (hs : Sim P ρ H w) (hr : runI ins ev e H = some (v, H')) : Both ins.sort P ρ H w H' v ((execOp a.eval o).run P w) := by
  unfold insBuiltin at hi
  split at hi
  · -- len
    rename_i t x hts
    obtain ⟨X, hX, hx⟩ := opdL_one has
    have hc := call_form hcl hX hts
    rw [hc] at ho
    unfold insLen at hi
    split at hi
    · rename_i hu; cases hi; exact (s_lent (u := 0) o ha hs ho hx hu hr).both
    · rename_i el hu; cases hi; exact (s_lens (u := 0) o ha hs ho hx hu hr).both
    · rename_i k el hu; cases hi; exact (s_lenm (u := 0) o ha hs ho hx hu hr).both
    · rename_i n el hu; cases hi; cases hr; exact (s_lena o ha hs ho hu).both
    · cases hi
  · -- cap
    rename_i t x hts
    obtain ⟨X, hX, hx⟩ := opdL_one has
    have hc := call_form hcl hX hts
    rw [hc] at ho
    split at hi
    · rename_i el hu; cases hi; exact (s_caps (u := 0) o ha hs ho hx hu hr).both
    · cases hi
  · -- append
    rename_i t u x y hts
    obtain ⟨X, Y, hX, hx, hy⟩ := opdL_two has
    split at hi
    · rename_i el el2 hu1 hu2
      split at hi
      · rename_i s zs hs1 hz
        split at hi
        · rename_i hcond
          cases hi
          simp only [Bool.and_eq_true, beq_iff_eq] at hcond
          exact (s_app o ha hs ho hcl hX hts hx hy hu1 (.inl ⟨_, hu2⟩) hs1 hz hcond.1 hr).both (by simp [Ins.sort])
        · cases hi
      · cases hi
    · rename_i el hu1 hu2
      split at hi
      · rename_i z hu3 hs1 hz
        cases hi
        exact (s_app o ha hs ho hcl hX hts hx hy hu1 (.inr hu2) hs1 hz rfl hr).both (by simp [Ins.sort])
      · cases hi
    · cases hi
  · -- copy
    rename_i t u x y hts
    obtain ⟨X, Y, hX, hx, hy⟩ := opdL_two has
    split at hi
    · rename_i el hu1
      split at hi
      · rename_i s hs1
        cases hi
        exact (s_cpy o ha hs ho hcl hX hts hx hy hu1 hs1 hr).both (by simp [Ins.sort])
      · cases hi
    · cases hi
  · cases hi; cases hr
  · cases hi; exact (s_minmax o ha hs (mx := true) ho hcl has hr).both
  · cases hi; exact (s_minmax o ha hs (mx := false) ho hcl has hr).both
  · cases hi

theorem bin_sound (hdep : 50 ≤ P.depth) {ev : Ev} {o : Oper} {op : BinOp} {t u : TypeId} {x y : Operand} {x' y' : Opd} {ins : Ins} (ho : o.op = .binOp op t x y u) (hx : Opd.of x = some x') (hy : Opd.of y = some y') (hi : insBin P op t x' y' = some ins)
    (ha : AR D ρ nt e a) (hs : Sim P ρ H w) (hr : runI ins ev e H = some (v, H')) : Still P ρ H w H' v ((execOp a.eval o).run P w) := by
  unfold insBin at hi
  split at hi
  · cases hi; exact s_bin o ha hs ho hx hy hr
  · cases hi; exact s_bin o ha hs ho hx hy hr
  · rename_i d _ _ hd
    split at hi
    · split at hi
      · rename_i hag
        cases hl : leafs P 50 t with
        | none => rw [hl] at hi; cases hi
        | some l => rw [hl] at hi; cases hi; exact s_eqa (neg := false) o ha hs hdep ho hx hy hd hag hl rfl hr
      · cases hk : eqKind d x' y' with
        | none => rw [hk] at hi; cases hi
        | some k => rw [hk] at hi; cases hi; exact s_eqc (neg := false) o ha hs ho hx hy hd hk rfl hr
    · split at hi
      · rename_i hag
        cases hl : leafs P 50 t with
        | none => rw [hl] at hi; cases hi
        | some l => rw [hl] at hi; cases hi; exact s_eqa (neg := true) o ha hs hdep ho hx hy hd hag hl rfl hr
      · cases hk : eqKind d x' y' with
        | none => rw [hk] at hi; cases hi
        | some k => rw [hk] at hi; cases hi; exact s_eqc (neg := true) o ha hs ho hx hy hd hk rfl hr
    · cases hi
  · cases hi

theorem conv_sound {ev : Ev} {o : Oper} {s d : TypeId} {x : Operand} {x' : Opd} {ins : Ins} (ho : o.op = .convert s d x) (hx : Opd.of x = some x') (hi : insConv P s d x' = some ins)
    (ha : AR D ρ nt e a) (hs : Sim P ρ H w) (hr : runI ins ev e H = some (v, H')) : Still P ρ H w H' v ((execOp a.eval o).run P w) := by
  unfold insConv at hi
  split at hi
  · rename_i h0 h1; cases hi; exact s_conv o ha hs ho hx h0 h1 hr
  · rename_i h0 h1; cases hi; exact s_convs o ha hs ho hx h0 h1 hr
  · rename_i el h0 h1
    split at hi
    · rename_i h2
      split at hi
      · cases hi; exact s_b2s o ha hs ho hx h0 h1 h2 hr
      · cases hi
    · cases hi
  · cases hi

theorem slice_sound {ev : Ev} {o : Oper} {t : TypeId} {x : Operand} {x' : Opd} {lo hi mx : Option Operand} {lo' hi' mx' : Option Opd} {ins : Ins} (ho : o.op = .slice t x lo hi mx) (hx : Opd.of x = some x') (h1 : opdO lo = some lo') (h2 : opdO hi = some hi') (h3 : opdO mx = some mx')
    (hi : insSlice P t x' lo' hi' mx' = some ins) (ha : AR D ρ nt e a) (hs : Sim P ρ H w) (hr : runI ins ev e H = some (v, H')) : Still P ρ H w H' v ((execOp a.eval o).run P w) := by
  unfold insSlice at hi
  split at hi
  · cases hi
  · rename_i hno
    have hno' : mx' ≠ none → hi' ≠ none := by
      intro h h'
      subst h'
      cases mx' with
      | none => exact h rfl
      | some z => simp at hno
    split at hi
    · rename_i el hu
      split at hi
      · rename_i n hn; cases hi; exact s_slc o ha hs ho hx h1 h2 h3 hno' hu hn hr
      · cases hi
    · rename_i hu
      split at hi
      · cases hi
        have : mx = none := by
          cases mx with
          | none => rfl
          | some z => simp only [opdO] at h3; cases hz : Opd.of z <;> rw [hz] at h3 <;> cases h3
        subst this
        exact s_sls o ha hs ho hx h1 h2 hu hr
      · cases hi
    · rename_i n el hu
      split at hi
      · rename_i s hn; cases hi; exact s_sla o ha hs ho hx h1 h2 h3 hno' hu hn hr
      · cases hi
    · cases hi

theorem callI_sound (hdep : 50 ≤ P.depth) {ev : Ev} (hF : FSound P ev.f) {o : Oper} {c : Call} {ins : Ins} (ho : o.op = .call c) (hi : insCall P c = some ins)
    (ha : AR D ρ nt e a) (hs : Sim P ρ H w) (hr : runI ins ev e H = some (v, H')) : Both ins.sort P ρ H w H' v ((execOp a.eval o).run P w) := by
  unfold insCall at hi
  split at hi
  · cases hi
  · rename_i as has
    have hargs := opdL_rel has ha
    have harr : c.args.map a.eval = (⟨c.args.toList.map a.eval⟩ : Array Value) := by apply Array.ext'; simp
    split at hi
    · rename_i f hcl
      cases hi
      refine (call_core hF hs hr hargs fun fn h1 h2 h3 => ?_).both (by simp [Ins.sort])
      have hcf := run_callFunc h1 h2 h3 ⟨c.args.toList.map a.eval⟩ w
      have hev : a.eval (.func f) = .func (.func f) #[] #[] := rfl
      simp [execOp, ho, resolve, hcl, hev, Deferred.ofValue, invoke, harr, hcf]
    · rename_i x _ hcl
      split at hi
      · rename_i x' hx
        cases hi
        have h1 := opd hx ha
        generalize hxv : a.eval x = xv at h1
        generalize hxa : x'.v e = xa at h1
        simp only [runI, hxa] at hr
        cases h1 with
        | func fn a1 b1 a2 b2 q1 q2 =>
          cases fn with
          | func f =>
            refine (call_core hF hs hr ((q1.append hargs).append q2) fun fn g1 g2 g3 => ?_).both (by simp [Ins.sort])
            have hcf := run_callFunc g1 g2 g3 ⟨a2 ++ c.args.toList.map a.eval ++ b2⟩ w
            simp [execOp, ho, resolve, hcl, hxv, Deferred.ofValue, invoke, harr]
            simpa using hcf
          | _ => cases hr
        | _ => cases hr
      · cases hi
    · cases hi
    · rename_i b hcl
      exact builtin_sound hdep ho hcl has hi ha hs hr

end Go.Rx
