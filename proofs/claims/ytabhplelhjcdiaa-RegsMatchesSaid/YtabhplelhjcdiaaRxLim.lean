/- The abstract machine with as much fuel as it takes: one machine, and its equations. -/
import Derived.Test.YtabhplelhjcdiaaRxMono
/- The abstract machine with as much fuel as it takes: one machine, and its equations. -/
set_option linter.unusedVariables false
set_option linter.unusedSimpArgs false
namespace Go.Rx
noncomputable section

variable {F : Nat → Option AF} {O : Nat → Option (List Value → Heap → R)}

open Classical in
def evL (F : Nat → Option AF) (O : Nat → Option (List Value → Heap → R)) : Ev where
  f := fun f args H => if h : ∃ x n, (evN F O n).f f args H = some x then some (Classical.choose h) else none
  c := fun ac e H => if h : ∃ x n, (evN F O n).c ac e H = some x then some (Classical.choose h) else none

theorem evN_f_one {f : Nat} {args : List Value} {H : Heap} {x y : Value × Heap} {n m : Nat} (h : (evN F O n).f f args H = some x) (h' : (evN F O m).f f args H = some y) : x = y := by
  have h1 := (evN_le F O (Nat.le_max_left n m)).f f args H x h
  have h2 := (evN_le F O (Nat.le_max_right n m)).f f args H y h'
  rw [h1] at h2
  exact Option.some.inj h2
theorem evN_c_one {ac : AC} {e : Env} {H : Heap} {x y : Ex × Env × Heap} {n m : Nat} (h : (evN F O n).c ac e H = some x) (h' : (evN F O m).c ac e H = some y) : x = y := by
  have h1 := (evN_le F O (Nat.le_max_left n m)).c ac e H x h
  have h2 := (evN_le F O (Nat.le_max_right n m)).c ac e H y h'
  rw [h1] at h2
  exact Option.some.inj h2

theorem evL_f {f : Nat} {args : List Value} {H : Heap} {x : Value × Heap} : (evL F O).f f args H = some x ↔ ∃ n, (evN F O n).f f args H = some x := by
  unfold evL
  constructor
  · intro h
    simp only at h
    split at h
    · rename_i hx
      cases h
      exact Classical.choose_spec hx
    · cases h
  · rintro ⟨n, h⟩
    simp only
    rw [dif_pos ⟨x, n, h⟩]
    have hx : ∃ x n, (evN F O n).f f args H = some x := ⟨x, n, h⟩
    obtain ⟨m, hm⟩ := Classical.choose_spec hx
    rw [evN_f_one hm h]
theorem evL_c {ac : AC} {e : Env} {H : Heap} {x : Ex × Env × Heap} : (evL F O).c ac e H = some x ↔ ∃ n, (evN F O n).c ac e H = some x := by
  unfold evL
  constructor
  · intro h
    simp only at h
    split at h
    · rename_i hx
      cases h
      exact Classical.choose_spec hx
    · cases h
  · rintro ⟨n, h⟩
    simp only
    rw [dif_pos ⟨x, n, h⟩]
    have hx : ∃ x n, (evN F O n).c ac e H = some x := ⟨x, n, h⟩
    obtain ⟨m, hm⟩ := Classical.choose_spec hx
    rw [evN_c_one hm h]

theorem evL_le (n : Nat) : EvLe (evN F O n) (evL F O) := ⟨fun f args H x h => evL_f.2 ⟨n, h⟩, fun ac e H x h => evL_c.2 ⟨n, h⟩⟩

/-! ### Whatever it makes, it makes with some fuel -/
theorem evL_runI {ins : Ins} {e : Env} {H : Heap} {x : Value × Heap} (hr : runI ins (evL F O) e H = some x) : ∃ n, runI ins (evN F O n) e H = some x := by
  cases ins
  case call f args => exact evL_f.1 hr
  case calld y args =>
    have hr : callD (y.v e) (evL F O) (vL e args) H = some x := hr
    show ∃ n, callD (y.v e) (evN F O n) (vL e args) H = some x
    generalize y.v e = u at hr
    cases u with
    | func fn a b =>
      cases fn with
      | func g => exact evL_f.1 hr
      | _ => cases hr
    | _ => cases hr
  all_goals exact ⟨0, hr⟩

theorem evL_runB : ∀ {l : List GI} {e : Env} {H : Heap} {x : Env × Heap}, runB (evL F O) l e H = some x → ∃ n, runB (evN F O n) l e H = some x
  | [], e, H, x, hr => ⟨0, hr⟩
  | g :: l, e, H, x, hr => by
    rw [runB_cons] at hr
    cases hon : onG g.g e with
    | true =>
      rw [hon] at hr
      simp only [cond_true] at hr
      obtain ⟨v, h1, hx, hk⟩ := runB1_some hr
      obtain ⟨n, hn⟩ := evL_runI hx
      obtain ⟨m, hm⟩ := evL_runB hk
      refine ⟨max n m, ?_⟩
      rw [runB_cons, hon]
      simp only [cond_true]
      rw [(evN_le F O (Nat.le_max_left n m)).runI hn]
      show forceV v (fun v => runB (evN F O (max n m)) l (putD e g.dst v) h1) = some x
      rw [forceV_eq]
      exact (evN_le F O (Nat.le_max_right n m)).runB hm
    | false =>
      rw [hon] at hr
      simp only [cond_false] at hr
      obtain ⟨m, hm⟩ := evL_runB hr
      refine ⟨m, ?_⟩
      rw [runB_cons, hon]
      exact hm

theorem evL_runT : ∀ {l : List GI} {e : Env} {H : Heap} {acc : List Heap} {x : Env × Heap × List Heap}, runT (evL F O) l e H acc = some x → ∃ n, runT (evN F O n) l e H acc = some x
  | [], e, H, acc, x, hr => ⟨0, hr⟩
  | g :: l, e, H, acc, x, hr => by
    rw [runT_cons] at hr
    cases hon : onG g.g e with
    | true =>
      rw [hon] at hr
      simp only [cond_true] at hr
      obtain ⟨v, h1, hx, hk⟩ := runT1_some hr
      obtain ⟨n, hn⟩ := evL_runI hx
      obtain ⟨m, hm⟩ := evL_runT hk
      refine ⟨max n m, ?_⟩
      rw [runT_cons, hon]
      simp only [cond_true]
      rw [(evN_le F O (Nat.le_max_left n m)).runI hn]
      show forceV v (fun v => runT (evN F O (max n m)) l (putD e g.dst v) h1 (acc ++ [h1])) = some x
      rw [forceV_eq]
      exact (evN_le F O (Nat.le_max_right n m)).runT hm
    | false =>
      rw [hon] at hr
      simp only [cond_false] at hr
      obtain ⟨m, hm⟩ := evL_runT hr
      refine ⟨m, ?_⟩
      rw [runT_cons, hon]
      exact hm

theorem evL_stays {l : List GI} {e : Env} {p : Nat} {H : Option Heap} (hr : stays (evL F O) l e p H = true) : ∃ n, stays (evN F O n) l e p H = true := by
  unfold stays at hr
  split at hr
  · rename_i g H1 hg
    cases hon : onG g.g e with
    | true =>
      rw [hon] at hr
      simp only [cond_true] at hr
      split at hr
      · rename_i d hd
        split at hr
        · rename_i v H2 hx
          obtain ⟨n, hn⟩ := evL_runI hx
          refine ⟨n, ?_⟩
          unfold stays
          simp only [hg, hon, cond_true, hd, hn]
          exact hr
        · cases hr
      · cases hr
    | false =>
      refine ⟨0, ?_⟩
      unfold stays
      simp only [hg, hon, cond_false]
  · cases hr

theorem evL_staysAll {l : List GI} {e : Env} {hs : List Heap} : ∀ {ps : List (Nat × Nat)}, staysAll (evL F O) l e hs ps = true → ∃ n, staysAll (evN F O n) l e hs ps = true
  | [], _ => ⟨0, rfl⟩
  | (p, q) :: ps, hr => by
    simp only [staysAll, Bool.and_eq_true] at hr
    obtain ⟨n, hn⟩ := evL_stays hr.1.1
    obtain ⟨m, hm⟩ := evL_stays hr.1.2
    obtain ⟨k, hk⟩ := evL_staysAll hr.2
    refine ⟨max n (max m k), ?_⟩
    simp only [staysAll, Bool.and_eq_true]
    exact ⟨⟨(evN_le F O (by omega)).stays hn, (evN_le F O (by omega)).stays hm⟩, (evN_le F O (by omega)).staysAll hk⟩

theorem evL_runD {l : List GI} {ps : List (Nat × Nat)} {e : Env} {H : Heap} {x : Env × Heap} (hr : runD (evL F O) l ps e H = some x) : ∃ n, runD (evN F O n) l ps e H = some x := by
  unfold runD at hr
  split at hr
  · rename_i e1 h1 hs hrt
    obtain ⟨hck, hr⟩ := bifS hr
    simp only [Bool.and_eq_true] at hck
    obtain ⟨n, hn⟩ := evL_runT hrt
    obtain ⟨m, hm⟩ := evL_staysAll hck.2
    refine ⟨max n m, ?_⟩
    unfold runD
    rw [(evN_le F O (Nat.le_max_left n m)).runT hn]
    simp only [hck.1, (evN_le F O (Nat.le_max_right n m)).staysAll hm, Bool.and_self, cond_true]
    exact hr
  · cases hr

theorem evL_thenC {b : AC} {y : RC} {x : Ex × Env × Heap} (hr : thenC (evL F O) b y = some x) : ∃ n, thenC (evN F O n) b y = some x := by
  cases y with
  | none => cases hr
  | some p =>
    obtain ⟨q, e, H⟩ := p
    cases q with
    | normal => exact evL_c.1 hr
    | exit i => exact ⟨0, hr⟩
    | ret => exact ⟨0, hr⟩

theorem evL_stepC : ∀ (ac : AC) (e : Env) (H : Heap) (x : Ex × Env × Heap), stepC (evL F O) ac e H = some x → ∃ n, stepC (evN F O n) ac e H = some x := by
  intro ac e H x hr
  have seqs : ∀ a b, thenC (evL F O) b ((evL F O).c a e H) = some x → ∃ n, thenC (evN F O n) b ((evN F O n).c a e H) = some x := by
    intro a b hr
    cases hq : (evL F O).c a e H with
    | none => rw [hq] at hr; cases hr
    | some p =>
      rw [hq] at hr
      obtain ⟨n, hn⟩ := evL_c.1 hq
      obtain ⟨m, hm⟩ := evL_thenC hr
      refine ⟨max n m, ?_⟩
      rw [(evN_le F O (Nat.le_max_left n m)).c _ _ _ _ hn]
      exact (evN_le F O (Nat.le_max_right n m)).thenC (fun _ h => h) hm
  cases ac with
  | skip => exact ⟨0, hr⟩
  | reg l =>
    have hr : regC (runB (evL F O) l e H) = some x := hr
    obtain ⟨h1, h2⟩ := regC_some hr
    obtain ⟨n, hn⟩ := evL_runB h2
    refine ⟨n, ?_⟩
    show regC (runB (evN F O n) l e H) = some x
    rw [hn]
    show some (Ex.normal, x.2.1, x.2.2) = some x
    rw [← h1]
  | regd l ps =>
    have hr : regC (runD (evL F O) l ps e H) = some x := hr
    obtain ⟨h1, h2⟩ := regC_some hr
    obtain ⟨n, hn⟩ := evL_runD h2
    refine ⟨n, ?_⟩
    show regC (runD (evN F O n) l ps e H) = some x
    rw [hn]
    show some (Ex.normal, x.2.1, x.2.2) = some x
    rw [← h1]
  | seq a b => exact seqs a b hr
  | cond c a b =>
    have hr : condC (c.v e) (evL F O) a b e H = some x := hr
    show ∃ n, condC (c.v e) (evN F O n) a b e H = some x
    generalize c.v e = u at hr
    cases u with
    | bool t =>
      cases t
      · exact evL_c.1 hr
      · exact evL_c.1 hr
    | _ => cases hr
  | block id a =>
    have hr : blockC id ((evL F O).c a e H) = some x := hr
    show ∃ n, blockC id ((evN F O n).c a e H) = some x
    cases hq : (evL F O).c a e H with
    | none => rw [hq] at hr; cases hr
    | some y =>
      rw [hq] at hr
      obtain ⟨n, hn⟩ := evL_c.1 hq
      refine ⟨n, ?_⟩
      rw [hn]
      exact hr
  | loop a => exact seqs a (.loop a) hr
  | exit id => exact ⟨0, hr⟩
  | ret => exact ⟨0, hr⟩

theorem evL_stepF {n : Nat} {args : List Value} {H : Heap} {x : Value × Heap} (hr : stepF F (evL F O) n args H = some x) : ∃ m, stepF F (evN F O m) n args H = some x := by
  unfold stepF at hr
  split at hr
  · rename_i a ha
    cases hq : (evL F O).c a.body (envOf args 0 .nil) H with
    | none => rw [hq] at hr; cases hr
    | some y =>
      rw [hq] at hr
      obtain ⟨m, hm⟩ := evL_c.1 hq
      refine ⟨m, ?_⟩
      unfold stepF
      rw [ha]
      simp only
      rw [hm]
      exact hr
  · cases hr

/-! ### The equations -/
theorem opt_eq {α : Type} {x y : Option α} (h : ∀ a, x = some a ↔ y = some a) : x = y := by
  cases x with
  | none => cases y with
    | none => rfl
    | some b => exact absurd ((h b).2 rfl) (by simp)
  | some a => exact ((h a).1 rfl).symm

theorem evL_c_eq (ac : AC) (e : Env) (H : Heap) : (evL F O).c ac e H = stepC (evL F O) ac e H := by
  refine opt_eq fun x => ⟨fun h => ?_, fun h => ?_⟩
  · obtain ⟨n, hn⟩ := evL_c.1 h
    cases n with
    | zero => cases hn
    | succ n => exact (evL_le n).stepC ac e H x hn
  · obtain ⟨n, hn⟩ := evL_stepC ac e H x h
    exact evL_c.2 ⟨n + 1, hn⟩

theorem evL_f_eq (f : Nat) (args : List Value) (H : Heap) : (evL F O).f f args H = match O f with | some s => s args H | none => stepF F (evL F O) f args H := by
  refine opt_eq fun x => ⟨fun h => ?_, fun h => ?_⟩
  · obtain ⟨n, hn⟩ := evL_f.1 h
    cases n with
    | zero => cases hn
    | succ n => exact ((evL_le n).stepE F O).f f args H x hn
  · cases ho : O f with
    | some s =>
      rw [ho] at h
      refine evL_f.2 ⟨1, ?_⟩
      show (match O f with | some s => s args H | none => _) = some x
      rw [ho]
      exact h
    | none =>
      rw [ho] at h
      obtain ⟨n, hn⟩ := evL_stepF h
      refine evL_f.2 ⟨n + 1, ?_⟩
      show (match O f with | some s => s args H | none => stepF F (evN F O n) f args H) = some x
      rw [ho]
      exact hn

end
end Go.Rx
