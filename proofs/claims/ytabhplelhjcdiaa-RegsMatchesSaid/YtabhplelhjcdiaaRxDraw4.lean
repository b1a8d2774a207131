/- Regions whose order is open: every order does what the text's order does. -/
import Derived.Test.YtabhplelhjcdiaaRxDraw3
/- Regions whose order is open: every order does what the text's order does. -/
set_option linter.unusedVariables false
set_option linter.unusedSimpArgs false
namespace Go.Rx

structure Ctx (P : Program) (nt : Nat) (ops : Array Oper) (gs : List GI) (b : List Nat) (ps : List (Nat × Nat)) (ev : Ev) (Es : Nat → Env) (Hs : Nat → Heap) (vs : Nat → Value) : Prop where
  hdep : 50 ≤ P.depth
  hF : FSound P ev.f
  comp : ∀ (j : Nat) (o : Oper), ops[j]? = some o → ∃ g, gs[j]? = some g ∧ giOf P nt ops o = some g
  chk : Checks ops gs b ps
  psm : ∀ i j, i < j → j < ops.size → waitB b i j = false → (sortAt gs i = 1 → sortAt gs j = 3 → (i, j) ∈ ps) ∧ (sortAt gs i = 3 → sortAt gs j = 1 → (j, i) ∈ ps)
  run : Run ev gs Es Hs vs
  mono : Mono ops.size Hs
  stay : ∀ p q, (p, q) ∈ ps → q < ops.size → stays ev gs (Es ops.size) p (some (Hs q)) = true ∧ stays ev gs (Es ops.size) p (some (Hs (q + 1))) = true

def Ld (listed : Array Bool) (i : Nat) : Prop := listed.getD i false = true

theorem Ld_set {listed : Array Bool} {i j : Nat} (hj : j < listed.size) : Ld (listed.setIfInBounds j true) i ↔ i = j ∨ Ld listed i := by
  unfold Ld
  rw [Array.getD_eq_getD_getElem?, Array.getD_eq_getD_getElem?, Array.getElem?_setIfInBounds]
  by_cases h : j = i
  · subst h; simp [hj]
  · rw [if_neg h]
    constructor
    · exact .inr
    · rintro (h1 | h1)
      · exact absurd h1.symm h
      · exact h1

section
variable {D : List Deferred}
variable {P : Program} {nt : Nat} {ops : Array Oper} {gs : List GI} {b : List Nat} {ps : List (Nat × Nat)} {ev : Ev} {Es : Nat → Env} {Hs : Nat → Heap} {vs : Nat → Value}

theorem Ctx.dst (c : Ctx P nt ops gs b ps ev Es Hs vs) {i : Nat} (hi : i < ops.size) : gdst gs i = dstAt ops.toList i := by
  obtain ⟨g, h1, h2⟩ := c.comp i ops[i] (by simp [hi])
  rw [dstAt_get (o := ops[i]) (by simp [hi])]
  simp [gdst, h1, (giOf_some h2).2.1]

theorem Ctx.ddist (c : Ctx P nt ops gs b ps ev Es Hs vs) : ∀ i j d, i < j → j < gs.length → gdst gs i = some d → gdst gs j ≠ some d := by
  intro i j d h1 h2 h3
  rw [c.chk.len] at h2
  rw [c.dst (by omega)] at h3
  rw [c.dst h2]
  exact c.chk.distinct h1 h2 h3

theorem Ctx.uniq (c : Ctx P nt ops gs b ps ev Es Hs vs) {i j d : Nat} (hi : i < ops.size) (hj : j < ops.size) (h1 : dstAt ops.toList i = some d) (h2 : dstAt ops.toList j = some d) : i = j := by
  rcases Nat.lt_trichotomy i j with h | h | h
  · exact absurd h2 (c.chk.distinct h hj h1)
  · exact h
  · exact absurd h1 (c.chk.distinct h hi h2)

/-- An operation that writes nothing: it leaves the heap, or makes a block. -/
theorem Ctx.quiet (c : Ctx P nt ops gs b ps ev Es Hs vs) {j : Nat} (hj : j < ops.size) (hs : sortAt gs j ≠ 3) : Hs (j + 1) = Hs j ∨ ∃ x, Mk ops.size Hs (sortAt gs) j x := by
  have hj' : j < gs.length := by rw [c.chk.len]; exact hj
  have hg := List.getElem?_eq_getElem hj'
  have hsrt := sortAt_get hg
  rcases c.run.step j _ hg with ⟨_, h2, _⟩ | ⟨_, h2, _⟩
  · have hle := Ins.sort_le gs[j].ins
    rw [hsrt] at hs
    have h3 : gs[j].ins.sort = 0 ∨ gs[j].ins.sort = 1 ∨ gs[j].ins.sort = 2 := by omega
    rcases h3 with h3 | h3 | h3
    · exact .inl (pure_run h3 h2).1
    · exact .inl (read_run h3 h2).1
    · obtain ⟨x, h4, h5, _⟩ := make_run h3 h2
      exact .inr ⟨x, hj, by rw [hsrt]; exact h3, h5, h4⟩
  · exact .inl h2

/-- The state between two operations. -/
structure St (D : List Deferred) (P : Program) (nt : Nat) (ops : Array Oper) (gs : List GI) (b : List Nat) (Es : Nat → Env) (Hs : Nat → Heap) (vs : Nat → Value) (ρ0 : Ren) (w0 : World)
    (listed : Array Bool) (ρ : Ren) (E : Env) (a : Act) (w : World) (m0 : Nat) : Prop where
  size : listed.size = ops.size
  closed : ∀ i j, i < ops.size → j < ops.size → waitB b i j = true → Ld listed j → Ld listed i
  wr : ∀ q, q < ops.size → sortAt gs q = 3 → (Ld listed q ↔ q < m0)
  mks : ∀ i, i < ops.size → sortAt gs i = 2 → i < m0 → Ld listed i
  wst : Wst P ops.size Hs (sortAt gs) ρ0 w0 (Ld listed) ρ w m0
  eset : ∀ i d, i < ops.size → Ld listed i → dstAt ops.toList i = some d → E.g d = vs i
  eold : ∀ t, (∀ i, i < ops.size → Ld listed i → dstAt ops.toList i ≠ some t) → E.g t = (Es 0).g t
  slot : ∀ t, (∃ i, i < ops.size ∧ Ld listed i ∧ dstAt ops.toList i = some t ∧ VR (cutR ρ (Hs (max m0 (i + 1))).next) (E.g t) (a.tmps.getD t undef)) ∨
    ((∀ i, i < ops.size → Ld listed i → dstAt ops.toList i ≠ some t) ∧ VR (cutR ρ (Hs m0).next) (E.g t) (a.tmps.getD t undef))
  asz : nt ≤ a.tmps.size
  adef : a.defers = D
  top : m0 = 0 ∨ ∃ q, m0 = q + 1 ∧ sortAt gs q = 3

/-- What an operation waits for, when its turn may come. -/
structure Turn (ops : Array Oper) (gs : List GI) (b : List Nat) (listed : Array Bool) (j : Nat) : Prop where
  lt : j < ops.size
  new : ¬ Ld listed j
  all : ∀ i, i < ops.size → waitB b i j = true → Ld listed i

theorem Ctx.turn (c : Ctx P nt ops gs b ps ev Es Hs vs) {listed : Array Bool} (hsz : listed.size = ops.size) (hcl : ∀ i j, i < ops.size → j < ops.size → waitB b i j = true → Ld listed j → Ld listed i) {j : Nat} (h : j ∈ Region.ready .any ops listed) : Turn ops gs b listed j := by
  have h1 := (List.mem_filter.1 h).1
  have h2 := (List.mem_filter.1 h).2
  simp only [List.mem_range] at h1
  simp only [Bool.and_eq_true, Bool.not_eq_true'] at h2
  obtain ⟨h3, h4⟩ := h2
  have hlt : j < listed.size := by omega
  refine ⟨h1, ?_, fun i hi hw => ?_⟩
  · unfold Ld
    rw [Array.getD_eq_getD_getElem?, Array.getElem?_eq_getElem hlt] at h3 ⊢
    simp at h3 ⊢
    exact h3
  · have ho : ops[j]? = some ops[j] := by simp [h1]
    have hok := c.chk.one j h1
    unfold opOk at hok
    have hj' : j < gs.length := by rw [c.chk.len]; exact h1
    simp only [Array.getElem?_toList, ho, List.getElem?_eq_getElem hj', Bool.and_eq_true, beq_iff_eq] at hok
    obtain ⟨⟨hb, hback⟩, _⟩ := hok
    have hw' : (b.getD j 0).testBit i = true := hw
    rw [hb] at hw'
    rcases foldl_bits b _ 0 i hw' with h5 | ⟨e, h5, h6, h7⟩
    · simp at h5
    · rw [ho] at h4
      simp only [Option.map_some, Option.getD_some] at h4
      have h8 := Array.all_eq_true_iff_forall_mem.1 h4 e (Array.mem_toList_iff.1 h5)
      simp only [h6, Bool.not_true, Bool.false_or] at h8
      have h9 : e.on < j := by
        have := List.all_eq_true.1 hback e h5
        simpa [h6] using this
      rcases h7 with rfl | h7
      · exact h8
      · exact hcl i e.on hi (by omega) h7 h8

/-- An operation's slots hold what they hold in the text's order. -/
theorem St.agree (c : Ctx P nt ops gs b ps ev Es Hs vs) {ρ0 ρ : Ren} {w0 w : World} {listed : Array Bool} {E : Env} {a : Act} {m0 j : Nat} (h : St D P nt ops gs b Es Hs vs ρ0 w0 listed ρ E a w m0) (ht : Turn ops gs b listed j) {t : Nat} (hu : t ∈ looksAt ops.toList j) :
    E.g t = (Es j).g t ∧ VR (cutR ρ (Hs (max m0 j)).next) (E.g t) (a.tmps.getD t undef) := by
  have hlen := c.chk.len
  have hjn := ht.lt
  -- one that has been carried out and sets this slot stands ahead
  have ahead : ∀ i, i < ops.size → Ld listed i → dstAt ops.toList i = some t → i < j := by
    intro i hi hL hd
    rcases Nat.lt_trichotomy i j with h1 | h1 | h1
    · exact h1
    · subst h1; exact absurd hL ht.new
    · cases hw : waitB b j i with
      | true => exact absurd (h.closed j i ht.lt hi hw hL) ht.new
      | false => exact absurd hu ((c.chk.free h1 hi hw).2.1 t hd)
  constructor
  · by_cases hex : ∃ i, i < ops.size ∧ dstAt ops.toList i = some t
    · obtain ⟨i, hi, hd⟩ := hex
      by_cases hL : Ld listed i
      · have hij := ahead i hi hL hd
        rw [h.eset i t hi hL hd]
        exact (c.run.own c.ddist (by rw [c.dst hi]; exact hd) hij (by omega)).symm
      · have hij : ¬ i < j := fun hij => by
          cases hw : waitB b i j with
          | true => exact hL (ht.all i hi hw)
          | false => exact (c.chk.free hij ht.lt hw).1 t hd hu
        rw [h.eold t fun i' hi' hL' hd' => hL (c.uniq hi hi' hd hd' ▸ hL')]
        refine (c.run.other (by have := ht.lt; omega) fun i' hi' => ?_).symm
        rw [c.dst (by have := ht.lt; omega)]
        intro hd'
        have := c.uniq hi (by have := ht.lt; omega) hd hd'
        omega
    · rw [h.eold t fun i hi _ hd => hex ⟨i, hi, hd⟩]
      refine (c.run.other (by have := ht.lt; omega) fun i hi => ?_).symm
      rw [c.dst (by have := ht.lt; omega)]
      exact fun hd => hex ⟨i, by have := ht.lt; omega, hd⟩
  · have hmle := h.wst.le
    have hjlt := ht.lt
    rcases h.slot t with ⟨i, hi, hL, hd, hv⟩ | ⟨_, hv⟩
    · have hij := ahead i hi hL hd
      exact hv.mono (cutR_le ρ (c.mono _ _ (by omega) (by omega)))
    · exact hv.mono (cutR_le ρ (c.mono _ _ (by omega) (by omega)))

/-- The operation, on its turn, looks at slots that stand to the text's. -/
theorem St.frame (c : Ctx P nt ops gs b ps ev Es Hs vs) {ρ0 ρ : Ren} {w0 w : World} {listed : Array Bool} {E : Env} {a : Act} {m0 j : Nat} (h : St D P nt ops gs b Es Hs vs ρ0 w0 listed ρ E a w m0) (ht : Turn ops gs b listed j) :
    AR D (cutR ρ (Hs (max m0 j)).next) nt (cutEnv (looksAt ops.toList j) E) (cutAct (looksAt ops.toList j) a) := by
  refine ⟨by rw [cutAct_size]; exact h.asz, h.adef, fun t => ?_⟩
  rw [cutEnv_g, cutAct_getD]
  by_cases hu : t ∈ looksAt ops.toList j
  · rw [if_pos hu, if_pos hu]
    exact (h.agree c ht hu).2
  · rw [if_neg hu, if_neg hu]
    exact .undef

theorem looksAt_tmp {o : Oper} {t : Tmp} (h : Operand.tmp t ∈ o.op.operands) : t ∈ o.looksAt ops := by
  unfold Oper.looksAt
  rw [List.mem_append]
  left
  rw [List.mem_filterMap]
  exact ⟨.tmp t, by simpa using h, rfl⟩
theorem looksAt_guard {o : Oper} {j d : Nat} {want : Bool} (h : o.guard = some (j, want)) (hd : (ops[j]?).bind (·.dst) = some d) : d ∈ o.looksAt ops := by
  unfold Oper.looksAt
  rw [List.mem_append]
  right
  simp [h, hd]

theorem no_select {o : Oper} {i : Ins} (h : insOf P o.op = some i) : ∀ cs b, o.op ≠ .select cs b := by
  intro cs b ho
  rw [ho] at h
  cases h

theorem cut_exec {o : Oper} {i : Ins} (h : insOf P o.op = some i) (a : Act) : execOp (cutAct (o.looksAt ops) a).eval o = execOp a.eval o := by
  refine execOp_congr o (no_select h) fun x hx => ?_
  cases x with
  | tmp t =>
    show (cutAct (o.looksAt ops) a).tmps.getD t undef = a.tmps.getD t undef
    rw [cutAct_getD, if_pos (looksAt_tmp hx)]
  | _ => rfl

theorem cut_yielded {o : Oper} {g : GI} (h : giOf P nt ops o = some g) (a : Act) : Region.wanted o (yielded ops (cutAct (o.looksAt ops) a).tmps) = Region.wanted o (yielded ops a.tmps) := by
  obtain ⟨_, _, _, hg⟩ := giOf_some h
  rcases hg with ⟨h1, _⟩ | ⟨j, want, dj, h1, h2, _⟩
  · simp [Region.wanted, h1]
  · simp only [Region.wanted, h1]
    unfold yielded
    rw [h2]
    simp only [Option.bind_some]
    rw [cutAct_same _ _ (looksAt_guard h1 h2)]

theorem onG_congr {g : Option (Nat × Bool)} {E E' : Env} (h : ∀ d want, g = some (d, want) → E.g d = E'.g d) : onG g E = onG g E' := by
  cases g with
  | none => rfl
  | some p =>
    obtain ⟨d, want⟩ := p
    show isB (E.g d) want = isB (E'.g d) want
    rw [h d want rfl]
end

section
variable {D : List Deferred}
variable {P : Program} {nt : Nat} {ops : Array Oper} {gs : List GI} {b : List Nat} {ps : List (Nat × Nat)} {ev : Ev} {Es : Nat → Env} {Hs : Nat → Heap} {vs : Nat → Value}
variable {ρ0 ρ : Ren} {w0 w : World} {listed : Array Bool} {E : Env} {a : Act} {m0 j : Nat}

/-- The text's next unwritten stretch. -/
theorem St.reach (c : Ctx P nt ops gs b ps ev Es Hs vs) (h : St D P nt ops gs b Es Hs vs ρ0 w0 listed ρ E a w m0) {m : Nat} (h1 : m0 ≤ m) (h2 : m ≤ ops.size) (h3 : ∀ q, m0 ≤ q → q < m → sortAt gs q ≠ 3) : Wst P ops.size Hs (sortAt gs) ρ0 w0 (Ld listed) ρ w m :=
  h.wst.window c.mono h1 h2 fun i hi hi' => c.quiet (by omega) (h3 i hi hi')

/-- The next state, when the operation has left its value. -/
theorem St.put (c : Ctx P nt ops gs b ps ev Es Hs vs) (h : St D P nt ops gs b Es Hs vs ρ0 w0 listed ρ E a w m0) (ht : Turn ops gs b listed j) {ρ1 : Ren} {w' : World} {m1 : Nat} {v' : Value} (hle : ρ.le ρ1) (hm : m0 ≤ m1)
    (hw : Wst P ops.size Hs (sortAt gs) ρ0 w0 (fun i => i = j ∨ Ld listed i) ρ1 w' m1) (hv : VR (cutR ρ1 (Hs (max m1 (j + 1))).next) (vs j) v')
    (hm1 : m1 = m0 ∧ sortAt gs j ≠ 3 ∨ m1 = j + 1 ∧ sortAt gs j = 3) :
    St D P nt ops gs b Es Hs vs ρ0 w0 (listed.setIfInBounds j true) ρ1 (putD E (dstAt ops.toList j) (vs j)) (a.put (dstAt ops.toList j) v') w' m1 := by
  have hjn := ht.lt
  have hset : ∀ i, Ld (listed.setIfInBounds j true) i ↔ i = j ∨ Ld listed i := fun i => Ld_set (by rw [h.size]; exact ht.lt)
  have hfun : Ld (listed.setIfInBounds j true) = fun i => i = j ∨ Ld listed i := by funext i; exact propext (hset i)
  have hm1n := hw.le
  have up : ∀ {N M : Nat} {x y : Value}, N ≤ M → M ≤ ops.size → VR (cutR ρ (Hs N).next) x y → VR (cutR ρ1 (Hs M).next) x y := fun h1 h2 hv => hv.mono (Ren.le_trans (cutR_le ρ (c.mono _ _ h1 h2)) (cutR_mono hle _))
  refine ⟨by simp [h.size], ?_, ?_, ?_, by rw [hfun]; exact hw, ?_, ?_, ?_, ?_, ?_, ?_⟩
  · intro i k hi hk hwt hL
    rw [hset] at hL ⊢
    rcases hL with rfl | hL
    · exact .inr (ht.all i hi hwt)
    · exact .inr (h.closed i k hi hk hwt hL)
  · intro q hq hs
    rw [hset]
    rcases hm1 with ⟨rfl, h3⟩ | ⟨rfl, h3⟩
    · rw [← h.wr q hq hs]
      constructor
      · rintro (rfl | h4)
        · exact absurd hs h3
        · exact h4
      · exact .inr
    · constructor
      · rintro (rfl | h4)
        · omega
        · rcases Nat.lt_or_ge q (j + 1) with h5 | h5
          · exact h5
          · exfalso
            cases hwt : waitB b j q with
            | true => exact ht.new (h.closed j q hjn hq hwt h4)
            | false => exact (c.chk.free (by omega) hq hwt).2.2 ⟨hs, by omega⟩
      · intro h5
        rcases Nat.lt_or_ge q j with h6 | h6
        · cases hwt : waitB b q j with
          | true => exact .inr (ht.all q hq hwt)
          | false => exact absurd ⟨h3, by omega⟩ (c.chk.free h6 hjn hwt).2.2
        · exact .inl (by omega)
  · intro i hi hs hlt
    rw [hset]
    rcases hm1 with ⟨rfl, h3⟩ | ⟨rfl, h3⟩
    · exact .inr (h.mks i hi hs hlt)
    · have hne : i ≠ j := fun e => by subst e; omega
      cases hwt : waitB b i j with
      | true => exact .inr (ht.all i hi hwt)
      | false => exact absurd ⟨h3, by omega⟩ (c.chk.free (by omega) hjn hwt).2.2
  · intro i d hi hL hd
    rw [putD_g]
    rw [hset] at hL
    by_cases e : i = j
    · subst e; rw [if_pos hd]
    · rcases hL with hL | hL
      · exact absurd hL e
      · rw [if_neg (fun hd' => e (c.uniq hi hjn hd hd'))]
        exact h.eset i d hi hL hd
  · intro t hno
    rw [putD_g, if_neg (hno j hjn ((hset j).2 (.inl rfl)))]
    exact h.eold t fun i hi hL => hno i hi ((hset i).2 (.inr hL))
  · intro t
    rw [putD_g]
    by_cases hd : dstAt ops.toList j = some t
    · left
      refine ⟨j, hjn, (hset j).2 (.inl rfl), hd, ?_⟩
      rw [if_pos hd]
      obtain ⟨g, hg1, hg2⟩ := c.comp j ops[j] (by simp [hjn])
      have hlt : t < nt := (giOf_some hg2).2.2.1 t (by rw [← dstAt_get (ops := ops) (i := j) (o := ops[j]) (by simp [hjn])]; exact hd)
      have hlt' : t < a.tmps.size := Nat.lt_of_lt_of_le hlt h.asz
      rw [hd]
      have : (a.put (some t) v').tmps.getD t undef = v' := by simp [Act.put, hlt']
      rw [this]
      exact hv
    · rw [if_neg hd]
      have htm : (a.put (dstAt ops.toList j) v').tmps.getD t undef = a.tmps.getD t undef := by
        cases hq : dstAt ops.toList j with
        | none => rfl
        | some d =>
          have hne : d ≠ t := fun e => by subst e; exact hd hq
          simp only [Act.put]
          rw [Array.getD_eq_getD_getElem?, Array.getElem?_setIfInBounds_ne hne, ← Array.getD_eq_getD_getElem?]
      rw [htm]
      rcases h.slot t with ⟨i, hi, hL, hd', hv'⟩ | ⟨hno, hv'⟩
      · exact .inl ⟨i, hi, (hset i).2 (.inr hL), hd', up (by omega) (by omega) hv'⟩
      · refine .inr ⟨fun i hi hL => ?_, up hm hm1n hv'⟩
        rw [hset] at hL
        rcases hL with rfl | hL
        · exact hd
        · exact hno i hi hL
  · have : (a.put (dstAt ops.toList j) v').tmps.size = a.tmps.size := by cases dstAt ops.toList j <;> simp [Act.put]
    rw [this]; exact h.asz
  · have : (a.put (dstAt ops.toList j) v').defers = a.defers := by cases dstAt ops.toList j <;> rfl
    rw [this]; exact h.adef
  · rcases hm1 with ⟨rfl, h3⟩ | ⟨rfl, h3⟩
    · exact h.top
    · exact .inr ⟨j, rfl, h3⟩
end

end Go.Rx
