/- Out of a closed run: a function is told; out of a run of a law: its calls. -/
import Derived.Test.YtabhplelhjcdiaaRxWp2
import Derived.KernelRfl
/- Out of a closed run: a function is told; out of a run of a law: its calls. -/
set_option linter.unusedVariables false
set_option linter.unusedSimpArgs false
namespace Go.Rx

variable {P : Program}

def emptyH : Heap := ⟨1, .nil⟩
def noRen : Ren := fun _ => none
theorem sim_empty (w : World) : Sim P noRen emptyH w :=
  ⟨fun _ _ => rfl, fun _ _ h => (by cases h), fun _ _ _ h => (by cases h), fun _ _ _ _ _ _ _ h => (by cases h), fun b _ => rfl⟩

/-- A closed function that yields true: told so, in any heap. -/
def saysTrue : List Value → Heap → R := fun args h => match args with
  | [] => some (.bool true, h)
  | _ => none
def isTrueR (r : R) : Bool := match r with
  | some (.bool b, _) => b
  | _ => false

theorem FS1.closed {ff : Nat → List Value → Heap → R} (hF : FSound P ff) {f : Nat} (hr : isTrueR (ff f [] emptyH) = true) : FS1 P f saysTrue := by
  intro args H v H' hs
  cases args with
  | cons _ _ => cases hs
  | nil =>
    cases hs
    unfold isTrueR at hr
    split at hr
    · rename_i b H1 hrun
      subst hr
      obtain ⟨h1, h2⟩ := hF f [] emptyH _ H1 hrun
      refine ⟨h1, fun ρ w args' hsim hargs => ?_⟩
      refine (h2 noRen w args' (sim_empty w) (by cases hargs; exact .nil)).mono ?_
      intro e w' he
      cases e with
      | returned v' =>
        obtain ⟨ρ', hv, hs', hst⟩ := he
        cases hv
        have fr : ∀ c, c < w.heap.size → w'.heap[c]? = w.heap[c]? := fun c hc => hst.frame c hc (fun ⟨b, l, x, hb, _⟩ => by cases hb)
        refine ⟨ρ, .bool true, ⟨hsim.fresh, fun b l hb => Nat.lt_of_lt_of_le (hsim.dom b l hb) hst.size, fun b l x hb hx => (hsim.blks b l x hb hx).world (fr _ (hsim.dom b l hb)), hsim.excl, hsim.clean⟩,
          ⟨ρ.le_refl, Nat.le_refl _, hst.os, hst.tape, hst.output, hst.size, fun c hc _ => fr c hc, fun _ _ h => h, fun _ _ h => h, fun b l a1 a2 => by rw [a1] at a2; cases a2⟩⟩
      | _ => exact he
    · cases hr

/-- What a law leaves: true, and the old memory. -/
def LawEnd (w : World) : Ending → World → Prop := fun e w' => e = .returned (.bool true) ∧ w'.os = w.os ∧ w'.output = w.output ∧ w.heap.size ≤ w'.heap.size ∧ ∀ c, c < w.heap.size → w'.heap[c]? = w.heap[c]?

theorem law_calls (hdep : 50 ≤ P.depth) (hm : P.follows .mixedOrders = true) {M : Mach} (hT : TableOk P M.F) (hO : OracleOk P M.O) {f : Nat} {args args' : List Value} {H : Heap} {ρ : Ren} {w : World}
    (hw : WF M f args H (fun v _ => v = .bool true)) (hsim : Sim P ρ H w) (hargs : VRL ρ args args') (hown : ∀ c, ¬ Own ρ H c) : Calls P f ⟨args'⟩ w (LawEnd w) := by
  obtain ⟨v, H', hr, rfl⟩ := hw
  obtain ⟨n, hn⟩ := evL_f.1 hr
  refine ((machine_sound hdep hm hT hO n f args H _ H' hn).2 ρ w args' hsim hargs).mono ?_
  intro e w' he
  cases e with
  | returned v' =>
    obtain ⟨ρ', hv, hs', hst⟩ := he
    cases hv
    exact ⟨rfl, hst.os, hst.output, hst.size, fun c hc => hst.frame c hc (hown c)⟩
  | _ => exact he.elim

/-! ### Tables -/
noncomputable def tabF (l : List (Nat × AF)) : Nat → Option AF := fun n => List.rec none (fun p _ r => bif Nat.beq p.1 n then some p.2 else r) l
theorem tabF_cons (p : Nat × AF) (l : List (Nat × AF)) (n : Nat) : tabF (p :: l) n = bif Nat.beq p.1 n then some p.2 else tabF l n := rfl
theorem tabF_ok {P : Program} {l : List (Nat × AF)} (h : ∀ p ∈ l, afOf P p.1 = some p.2) : TableOk P (tabF l) := by
  induction l with
  | nil => intro f af hf; cases hf
  | cons p l ih =>
    intro f af hf
    rw [tabF_cons] at hf
    cases hb : Nat.beq p.1 f with
    | true =>
      rw [hb] at hf
      have := Nat.eq_of_beq_eq_true hb
      subst this
      cases hf
      exact h p (List.mem_cons_self ..)
    | false =>
      rw [hb] at hf
      exact ih (fun q hq => h q (List.mem_cons_of_mem _ hq)) f af hf
/-- Functions that are told to yield true. -/
noncomputable def trueO (l : List Nat) : Nat → Option (List Value → Heap → R) := fun n => List.rec none (fun p _ r => bif Nat.beq p n then some saysTrue else r) l
theorem trueO_cons (p : Nat) (l : List Nat) (n : Nat) : trueO (p :: l) n = bif Nat.beq p n then some saysTrue else trueO l n := rfl
theorem trueO_ok {P : Program} {l : List Nat} (h : ∀ p ∈ l, FS1 P p saysTrue) : OracleOk P (trueO l) := by
  induction l with
  | nil => intro f s hf; cases hf
  | cons p l ih =>
    intro f s hf
    rw [trueO_cons] at hf
    cases hb : Nat.beq p f with
    | true =>
      rw [hb] at hf
      have := Nat.eq_of_beq_eq_true hb
      subst this
      cases hf
      exact h p (List.mem_cons_self ..)
    | false =>
      rw [hb] at hf
      exact ih (fun q hq => h q (List.mem_cons_of_mem _ hq)) f s hf
theorem trueO_says {l : List Nat} {f : Nat} {s : List Value → Heap → R} (hf : trueO l f = some s) : s = saysTrue := by
  induction l with
  | nil => cases hf
  | cons p l ih =>
    rw [trueO_cons] at hf
    cases hb : Nat.beq p f with
    | true => rw [hb] at hf; cases hf; rfl
    | false => rw [hb] at hf; exact ih hf
theorem mono_true {F : Nat → Option AF} {l : List Nat} : Mach.Mono ⟨F, trueO l⟩ := by
  intro f s args h v h' hs hr
  have hs : trueO l f = some s := hs
  rw [trueO_says hs] at hr
  cases args with
  | nil => cases hr; exact Nat.le_refl _
  | cons _ _ => cases hr
theorem WF_true {M : Mach} {f : Nat} (hO : M.O f = some saysTrue) {h : Heap} {K : KF} (hk : K (.bool true) h) : WF M f [] h K := WF_orc hO rfl hk

end Go.Rx
