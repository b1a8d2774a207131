/- Regions whose order is open: every order does what the text's order does. -/
import Derived.Test.YtabhplelhjcdiaaRxDraw2
/- Regions whose order is open: every order does what the text's order does. -/
set_option linter.unusedVariables false
set_option linter.unusedSimpArgs false
namespace Go.Rx

/-- Of an order that is drawn step by step: what holds at every step holds at the end. -/
theorem wpAny_inv {P : Program} {ops : Array Oper} {Q : Exit → Act → World → Prop} {md : Region.Mode} (I : Array Bool → Act → World → Prop)
    (hstep : ∀ listed a w i, I listed a w → i ∈ Region.ready md ops listed → wpOp P ops Q i (I (listed.setIfInBounds i true)) a w)
    (hend : ∀ listed a w, I listed a w → Region.ready md ops listed = [] → Q .normal a w)
    (hsz : ∀ listed a w, I listed a w → listed.size = ops.size) :
    ∀ (fuel : Nat) (listed : Array Bool) (a : Act) (w : World), I listed a w → listed.toList.countP (fun b => !b) ≤ fuel → wpAny P md ops Q fuel listed a w
  | 0, listed, a, w, hI, hc => by
    have hnil : Region.ready md ops listed = [] := by
      rw [List.eq_nil_iff_forall_not_mem]
      intro i hi
      have h1 := (List.mem_filter.1 hi).1
      have h2 := (List.mem_filter.1 hi).2
      simp only [List.mem_range] at h1
      simp only [Bool.and_eq_true, Bool.not_eq_true'] at h2
      have hlt : i < listed.size := by rw [hsz _ _ _ hI]; exact h1
      have h0 : listed.toList.countP (fun b => !b) = 0 := by omega
      rw [List.countP_eq_zero] at h0
      have := h0 listed[i] (by simp)
      have h3 := h2.1
      rw [Array.getD_eq_getD_getElem?, Array.getElem?_eq_getElem hlt] at h3
      simp at h3 this
      rw [h3] at this
      cases this
    exact ⟨hnil, hend _ _ _ hI hnil⟩
  | fuel + 1, listed, a, w, hI, hc => by
    refine ⟨fun h => hend _ _ _ hI h, fun i hi => ?_⟩
    refine wpOp_mono (fun a' w' h => ?_) (hstep listed a w i hI hi)
    refine wpAny_inv I hstep hend hsz fuel _ a' w' h ?_
    have h1 := (List.mem_filter.1 hi).1
    have h2 := (List.mem_filter.1 hi).2
    simp only [List.mem_range] at h1
    simp only [Bool.and_eq_true, Bool.not_eq_true'] at h2
    have hlt : i < listed.size := by rw [hsz _ _ _ hI]; exact h1
    have h3 : listed[i] = false := by
      have h3 := h2.1
      rw [Array.getD_eq_getD_getElem?, Array.getElem?_eq_getElem hlt] at h3
      simpa using h3
    have key : ∀ (l : List Bool) (i : Nat) (h : i < l.length), l[i] = false → (l.set i true).countP (fun b => !b) + 1 = l.countP (fun b => !b) := by
      intro l
      induction l with
      | nil => intro i h; simp at h
      | cons x l ih =>
        intro i h hx
        cases i with
        | zero => simp at hx; subst hx; simp [List.countP_cons]
        | succ i =>
          simp only [List.set_cons_succ, List.countP_cons]
          have := ih i (by simpa using h) (by simpa using hx)
          omega
    have := key listed.toList i (by simpa using hlt) (by simpa using h3)
    rw [Array.toList_setIfInBounds]
    omega

/-! ### What the checks say -/
section
variable {P : Program} {nt : Nat} {ops : Array Oper} {gs : List GI} {b : List Nat} {ps : List (Nat × Nat)}

theorem gisOf_get : ∀ {l : List Oper} {gs : List GI}, gisOf P nt ops l = some gs → gs.length = l.length ∧ ∀ (j : Nat) (o : Oper), l[j]? = some o → ∃ g, gs[j]? = some g ∧ giOf P nt ops o = some g
  | [], gs, h => by cases h; exact ⟨rfl, fun j o ho => by simp at ho⟩
  | o :: l, gs, h => by
    obtain ⟨g, r, rfl, h1, h2⟩ := gisOf_cons h
    obtain ⟨h3, h4⟩ := gisOf_get h2
    refine ⟨by simp [h3], fun j o' ho => ?_⟩
    cases j with
    | zero => simp at ho; subst ho; exact ⟨g, by simp, h1⟩
    | succ j => simpa using h4 j o' (by simpa using ho)

theorem mem_pairs {n i j : Nat} (h1 : i < j) (h2 : j < n) : (i, j) ∈ pairs n := by
  unfold pairs
  rw [List.mem_flatMap]
  exact ⟨j, by simpa using h2, by simp [h1]⟩

theorem foldl_bits (b : List Nat) : ∀ (l : List Edge) (s i : Nat), (l.foldl (fun s e => if Region.binds .any e then s ||| (2 ^ e.on ||| b.getD e.on 0) else s) s).testBit i = true → s.testBit i = true ∨ ∃ e ∈ l, Region.binds .any e = true ∧ (e.on = i ∨ waitB b i e.on = true)
  | [], s, i, h => .inl h
  | e :: l, s, i, h => by
    rw [List.foldl_cons] at h
    rcases foldl_bits b l _ i h with h1 | ⟨e', h1, h2, h3⟩
    · by_cases hb : Region.binds .any e = true
      · rw [if_pos hb, Nat.testBit_or, Nat.testBit_or] at h1
        simp only [Bool.or_eq_true] at h1
        rcases h1 with h1 | h1 | h1
        · exact .inl h1
        · refine .inr ⟨e, by simp, hb, .inl ?_⟩
          rw [Nat.testBit_two_pow] at h1
          simpa using h1
        · exact .inr ⟨e, by simp, hb, .inr h1⟩
      · rw [if_neg hb] at h1
        exact .inl h1
    · exact .inr ⟨e', by simp [h1], h2, h3⟩

structure Checks (ops : Array Oper) (gs : List GI) (b : List Nat) (ps : List (Nat × Nat)) : Prop where
  len : gs.length = ops.size
  one : ∀ j, j < ops.size → opOk ops.toList gs b j = true
  two : ∀ i j, i < j → j < ops.size → pairOk ops.toList gs b (i, j) = true
  late : ∀ p ∈ ps, lateOk ops.toList ops.size p = true

theorem drawnB_checks (h : drawnB ops.toList gs b ps = true) : Checks ops gs b ps := by
  simp only [drawnB, Bool.and_eq_true, beq_iff_eq, Array.length_toList, List.all_eq_true] at h
  obtain ⟨⟨⟨h1, h2⟩, h3⟩, h4⟩ := h
  exact ⟨h1, fun j hj => h2 j (by simpa using hj), fun i j hi hj => h3 _ (mem_pairs hi hj), fun p hp => h4 p hp⟩

theorem pairsOf_mem {gs : List GI} {b : List Nat} {i j : Nat} : ∀ {l : List (Nat × Nat)}, (i, j) ∈ l → waitB b i j = false →
    (sortAt gs i = 1 → sortAt gs j = 3 → (i, j) ∈ pairsOf gs b l) ∧ (sortAt gs i = 3 → sortAt gs j = 1 → (j, i) ∈ pairsOf gs b l)
  | [], h, _ => by cases h
  | (i', j') :: l, h, hw => by
    have sub : ∀ x, x ∈ pairsOf gs b l → x ∈ pairsOf gs b ((i', j') :: l) := by
      intro x hx
      simp only [pairsOf]
      split
      · exact hx
      · split
        · exact List.mem_cons_of_mem _ hx
        · split
          · exact List.mem_cons_of_mem _ hx
          · exact hx
    rcases List.mem_cons.1 h with h1 | h1
    · cases h1
      constructor
      · intro h2 h3
        simp [pairsOf, hw, h2, h3]
      · intro h2 h3
        simp [pairsOf, hw, h2, h3]
    · obtain ⟨h2, h3⟩ := pairsOf_mem h1 hw
      exact ⟨fun a c => sub _ (h2 a c), fun a c => sub _ (h3 a c)⟩

theorem awayB_not {d : Option Nat} {l : List Nat} (h : awayB d l = true) {t : Nat} (hd : d = some t) : t ∉ l := by
  subst hd
  simpa [awayB] using h

theorem dstAt_get {i : Nat} {o : Oper} (h : ops[i]? = some o) : dstAt ops.toList i = o.dst := by simp [dstAt, h]
theorem looksAt_get {i : Nat} {o : Oper} (h : ops[i]? = some o) : looksAt ops.toList i = o.looksAt ops := by simp [looksAt, h]
theorem sortAt_get {i : Nat} {g : GI} (h : gs[i]? = some g) : sortAt gs i = g.ins.sort := by simp [sortAt, h]

theorem Checks.distinct (h : Checks ops gs b ps) {i j d : Nat} (hi : i < j) (hj : j < ops.size) (hd : dstAt ops.toList i = some d) : dstAt ops.toList j ≠ some d := by
  have := h.two i j hi hj
  simp only [pairOk, Bool.and_eq_true] at this
  have h1 := this.1
  rw [hd] at h1
  intro h2
  simp [otherB, h2] at h1

/-- Two operations of which neither waits for the other. -/
theorem Checks.free (h : Checks ops gs b ps) {i j : Nat} (hi : i < j) (hj : j < ops.size) (hw : waitB b i j = false) :
    (∀ d, dstAt ops.toList i = some d → d ∉ looksAt ops.toList j) ∧ (∀ d, dstAt ops.toList j = some d → d ∉ looksAt ops.toList i) ∧ ¬ (sortAt gs j = 3 ∧ 2 ≤ sortAt gs i) := by
  have := h.two i j hi hj
  simp only [pairOk, hw, Bool.false_or, Bool.and_eq_true, Bool.not_eq_true'] at this
  obtain ⟨_, ⟨h1, h2⟩, h3⟩ := this
  refine ⟨fun d hd => awayB_not h1 hd, fun d hd => awayB_not h2 hd, fun ⟨h4, h5⟩ => ?_⟩
  simp [h4, h5] at h3
end

end Go.Rx
