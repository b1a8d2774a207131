/- More fuel, the same answer. -/
import Derived.Test.YtabhplelhjcdiaaRxSound
/- More fuel, the same answer. -/
set_option linter.unusedVariables false
set_option linter.unusedSimpArgs false
namespace Go.Rx

/-- One machine answers what the other one does. -/
structure EvLe (r s : Ev) : Prop where
  f : ∀ (f : Nat) (args : List Value) (H : Heap) (x : Value × Heap), r.f f args H = some x → s.f f args H = some x
  c : ∀ (ac : AC) (e : Env) (H : Heap) (x : Ex × Env × Heap), r.c ac e H = some x → s.c ac e H = some x

theorem EvLe.runI {r s : Ev} (h : EvLe r s) {ins : Ins} {e : Env} {H : Heap} {x : Value × Heap} (hr : runI ins r e H = some x) : runI ins s e H = some x := by
  cases ins
  case call f args => exact h.f f _ H x hr
  case calld y args =>
    have hr : callD (y.v e) r (vL e args) H = some x := hr
    show callD (y.v e) s (vL e args) H = some x
    generalize y.v e = u at hr
    cases u with
    | func fn a b =>
      cases fn with
      | func g => exact h.f _ _ H x hr
      | _ => cases hr
    | _ => cases hr
  all_goals exact hr

theorem EvLe.runB {r s : Ev} (h : EvLe r s) : ∀ {l : List GI} {e : Env} {H : Heap} {x : Env × Heap}, runB r l e H = some x → runB s l e H = some x
  | [], e, H, x, hr => hr
  | g :: l, e, H, x, hr => by
    rw [runB_cons] at hr ⊢
    cases hon : onG g.g e with
    | true =>
      rw [hon] at hr
      simp only [cond_true] at hr ⊢
      obtain ⟨v, h1, hx, hk⟩ := runB1_some hr
      rw [h.runI hx]
      show forceV v (fun v => Rx.runB s l (putD e g.dst v) h1) = some x
      rw [forceV_eq]
      exact h.runB hk
    | false =>
      rw [hon] at hr
      simp only [cond_false] at hr ⊢
      exact h.runB hr

theorem EvLe.runT {r s : Ev} (h : EvLe r s) : ∀ {l : List GI} {e : Env} {H : Heap} {acc : List Heap} {x : Env × Heap × List Heap}, runT r l e H acc = some x → runT s l e H acc = some x
  | [], e, H, acc, x, hr => hr
  | g :: l, e, H, acc, x, hr => by
    rw [runT_cons] at hr ⊢
    cases hon : onG g.g e with
    | true =>
      rw [hon] at hr
      simp only [cond_true] at hr ⊢
      obtain ⟨v, h1, hx, hk⟩ := runT1_some hr
      rw [h.runI hx]
      show forceV v (fun v => Rx.runT s l (putD e g.dst v) h1 (acc ++ [h1])) = some x
      rw [forceV_eq]
      exact h.runT hk
    | false =>
      rw [hon] at hr
      simp only [cond_false] at hr ⊢
      exact h.runT hr

theorem EvLe.stays {r s : Ev} (h : EvLe r s) {l : List GI} {e : Env} {p : Nat} {H : Option Heap} (hr : stays r l e p H = true) : stays s l e p H = true := by
  unfold Rx.stays at hr ⊢
  split at hr
  · rename_i g H1 hg
    cases hon : onG g.g e with
    | true =>
      rw [hon] at hr
      simp only [hon, cond_true] at hr ⊢
      split at hr
      · rename_i d hd
        split at hr
        · rename_i v H2 hx
          rw [h.runI hx]
          exact hr
        · cases hr
      · cases hr
    | false => simp only [hon, cond_false]
  · cases hr

theorem EvLe.staysAll {r s : Ev} (h : EvLe r s) {l : List GI} {e : Env} {hs : List Heap} : ∀ {ps : List (Nat × Nat)}, staysAll r l e hs ps = true → staysAll s l e hs ps = true
  | [], _ => rfl
  | (p, q) :: ps, hr => by
    simp only [Rx.staysAll, Bool.and_eq_true] at hr ⊢
    exact ⟨⟨h.stays hr.1.1, h.stays hr.1.2⟩, h.staysAll hr.2⟩

theorem EvLe.runD {r s : Ev} (h : EvLe r s) {l : List GI} {ps : List (Nat × Nat)} {e : Env} {H : Heap} {x : Env × Heap} (hr : runD r l ps e H = some x) : runD s l ps e H = some x := by
  unfold Rx.runD at hr ⊢
  split at hr
  · rename_i e1 h1 hs hrt
    rw [h.runT hrt]
    obtain ⟨hck, hr⟩ := bifS hr
    simp only [Bool.and_eq_true] at hck
    simp only [hck.1, h.staysAll hck.2, Bool.and_self, cond_true]
    exact hr
  · cases hr

theorem EvLe.thenC {r s : Ev} (h : EvLe r s) {b : AC} {y z : RC} (hyz : ∀ x, y = some x → z = some x) {x : Ex × Env × Heap} (hr : thenC r b y = some x) : thenC s b z = some x := by
  cases y with
  | none => cases hr
  | some p =>
    rw [hyz p rfl]
    obtain ⟨q, e, H⟩ := p
    cases q with
    | normal => exact h.c b e H x hr
    | exit i => exact hr
    | ret => exact hr

theorem EvLe.stepC {r s : Ev} (h : EvLe r s) : ∀ (ac : AC) (e : Env) (H : Heap) (x : Ex × Env × Heap), stepC r ac e H = some x → stepC s ac e H = some x := by
  intro ac e H x hr
  cases ac with
  | skip => exact hr
  | reg l =>
    have hr : regC (Rx.runB r l e H) = some x := hr
    obtain ⟨h1, h2⟩ := regC_some hr
    show regC (Rx.runB s l e H) = some x
    rw [h.runB h2]
    show some (Ex.normal, x.2.1, x.2.2) = some x
    rw [← h1]
  | regd l ps =>
    have hr : regC (Rx.runD r l ps e H) = some x := hr
    obtain ⟨h1, h2⟩ := regC_some hr
    show regC (Rx.runD s l ps e H) = some x
    rw [h.runD h2]
    show some (Ex.normal, x.2.1, x.2.2) = some x
    rw [← h1]
  | seq a b => exact h.thenC (fun y hy => h.c a e H y hy) hr
  | cond c a b =>
    have hr : condC (c.v e) r a b e H = some x := hr
    show condC (c.v e) s a b e H = some x
    generalize c.v e = u at hr
    cases u with
    | bool t =>
      cases t
      · exact h.c b e H x hr
      · exact h.c a e H x hr
    | _ => cases hr
  | block id a =>
    have hr : blockC id (r.c a e H) = some x := hr
    show blockC id (s.c a e H) = some x
    cases hq : r.c a e H with
    | none => rw [hq] at hr; cases hr
    | some y => rw [hq] at hr; rw [h.c a e H y hq]; exact hr
  | loop a => exact h.thenC (fun y hy => h.c a e H y hy) hr
  | exit id => exact hr
  | ret => exact hr

theorem EvLe.stepF {r s : Ev} (h : EvLe r s) {F : Nat → Option AF} {n : Nat} {args : List Value} {H : Heap} {x : Value × Heap} (hr : stepF F r n args H = some x) : stepF F s n args H = some x := by
  unfold Rx.stepF at hr ⊢
  split at hr
  · rename_i a ha
    cases hq : r.c a.body (envOf args 0 .nil) H with
    | none => rw [hq] at hr; cases hr
    | some y => rw [hq] at hr; rw [h.c _ _ H y hq]; exact hr
  · cases hr

theorem EvLe.stepE {r s : Ev} (h : EvLe r s) (F : Nat → Option AF) (O : Nat → Option (List Value → Heap → R)) : EvLe (stepE F O r) (stepE F O s) := by
  refine ⟨fun f args H x hr => ?_, h.stepC⟩
  simp only [Rx.stepE] at hr ⊢
  split at hr
  · exact hr
  · exact h.stepF hr

theorem evN_succ_le (F : Nat → Option AF) (O : Nat → Option (List Value → Heap → R)) : ∀ n, EvLe (evN F O n) (evN F O (n + 1))
  | 0 => ⟨fun f args H x h => (by cases h), fun ac e H x h => (by cases h)⟩
  | n + 1 => (evN_succ_le F O n).stepE F O
theorem EvLe.refl (r : Ev) : EvLe r r := ⟨fun _ _ _ _ h => h, fun _ _ _ _ h => h⟩
theorem EvLe.trans {r s t : Ev} (h : EvLe r s) (h' : EvLe s t) : EvLe r t := ⟨fun f args H x hr => h'.f f args H x (h.f f args H x hr), fun ac e H x hr => h'.c ac e H x (h.c ac e H x hr)⟩
theorem evN_le (F : Nat → Option AF) (O : Nat → Option (List Value → Heap → R)) {n m : Nat} (h : n ≤ m) : EvLe (evN F O n) (evN F O m) := by
  induction m with
  | zero => have : n = 0 := by omega
            subst this; exact .refl _
  | succ m ih =>
    by_cases e : n = m + 1
    · subst e; exact .refl _
    · exact (ih (by omega)).trans (evN_succ_le F O m)

end Go.Rx
