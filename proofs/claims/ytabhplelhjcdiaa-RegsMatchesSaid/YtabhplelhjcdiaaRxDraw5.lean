/- Regions whose order is open: one operation on its turn. -/
import Derived.Test.YtabhplelhjcdiaaRxDraw4
/- Regions whose order is open: one operation on its turn. -/
set_option linter.unusedVariables false
set_option linter.unusedSimpArgs false
namespace Go.Rx

section
variable {D : List Deferred}
variable {P : Program} {nt : Nat} {ops : Array Oper} {gs : List GI} {b : List Nat} {ps : List (Nat × Nat)} {ev : Ev} {Es : Nat → Env} {Hs : Nat → Heap} {vs : Nat → Value}
variable {ρ0 ρ : Ren} {w0 w : World} {listed : Array Bool} {E : Env} {a : Act} {m0 j : Nat}

/-- More numbers, no more blocks. -/
theorem Sim.wider {N M : Nat} {H : Heap} (h : Sim P (cutR ρ N) H w) (hN : H.next = N) (hNM : N ≤ M) (hdom : ∀ b l, ρ b = some l → l.blk < w.heap.size) : Sim P (cutR ρ M) ⟨M, H.tr⟩ w := by
  have hat : ∀ c, Heap.at ⟨M, H.tr⟩ c = H.at c := fun _ => rfl
  have back : ∀ c l x, cutR ρ M c = some l → H.at c = some x → cutR ρ N c = some l := by
    intro c l x h1 h2
    obtain ⟨_, h3⟩ := cutR_some h1
    rcases Nat.lt_or_ge c N with h4 | h4
    · rw [cutR_lt h4]; exact h3
    · rw [h.clean c (by omega)] at h2; cases h2
  refine ⟨fun c hc => cutR_ge hc, fun c l hc => hdom c l (cutR_some hc).2, ?_, ?_, ?_⟩
  · intro c l x h1 h2
    exact (h.blks c l x (back c l x h1 h2) h2).mono (cutR_le ρ hNM)
  · intro c d l l' x x' hne h1 h1' h2 h2' ho
    exact h.excl c d l l' x x' hne (back c l x h1 h2) (back d l' x' h1' h2') h2 h2' ho
  · intro c hc
    exact h.clean c (by have : M ≤ c := hc; omega)

theorem Sim.bare {M : Nat} (hdom : ∀ b l, ρ b = some l → l.blk < w.heap.size) : Sim P (cutR ρ M) ⟨M, .nil⟩ w :=
  ⟨fun c hc => cutR_ge hc, fun c l hc => hdom c l (cutR_some hc).2, fun c l x h1 h2 => (by cases h2), fun c d l l' x x' hne h1 h1' h2 => (by cases h2), fun c hc => rfl⟩

theorem Ctx.uses (c : Ctx P nt ops gs b ps ev Es Hs vs) {o : Oper} {g : GI} (ho : ops[j]? = some o) (hg : gs[j]? = some g) : ∀ t ∈ g.ins.uses, t ∈ looksAt ops.toList j := by
  have hj : j < ops.size := (Array.getElem?_eq_some_iff.1 ho).1
  have hok := c.chk.one j hj
  unfold opOk at hok
  simp only [Array.getElem?_toList, ho, hg, Bool.and_eq_true] at hok
  intro t ht
  have := List.all_eq_true.1 hok.2 t ht
  rw [looksAt_get ho]
  simpa using this

/-- A reading that was looked at. -/
theorem Ctx.stays_run (c : Ctx P nt ops gs b ps ev Es Hs vs) {o : Oper} {g : GI} (ho : ops[j]? = some o) (hg : gs[j]? = some g) (hgi : giOf P nt ops o = some g) (hs : g.ins.sort = 1) (hon : onG g.g (Es j) = true) {q : Nat} (hp : (j, q) ∈ ps) {K : Heap}
    (h : stays ev gs (Es ops.size) j (some K) = true) : ∃ K', runI g.ins ev (Es j) K = some (vs j, K') := by
  have hj : j < ops.size := (Array.getElem?_eq_some_iff.1 ho).1
  have hlen := c.chk.len
  have hlate := c.chk.late _ hp
  have hsame : ∀ t ∈ looksAt ops.toList j, (Es ops.size).g t = (Es j).g t := by
    intro t ht
    have hno : ∀ i, j ≤ i → i < ops.size → dstAt ops.toList i ≠ some t := by
      intro i h1 h2 hd
      have := List.all_eq_true.1 hlate i (by simpa using h2)
      simp only [Bool.or_eq_true, decide_eq_true_eq] at this
      rcases this with h3 | h3
      · omega
      · exact awayB_not h3 hd ht
    by_cases hex : ∃ i, i < j ∧ dstAt ops.toList i = some t
    · obtain ⟨i, hi, hd⟩ := hex
      have hd' : gdst gs i = some t := by rw [c.dst (by omega)]; exact hd
      rw [c.run.own c.ddist hd' (by omega) (by omega), c.run.own c.ddist hd' hi (by omega)]
    · have e1 : (Es ops.size).g t = (Es 0).g t := c.run.other (by omega) fun i hi => by
        rw [c.dst (by omega)]
        rcases Nat.lt_or_ge i j with h1 | h1
        · exact fun hd => hex ⟨i, h1, hd⟩
        · exact hno i h1 (by omega)
      have e2 : (Es j).g t = (Es 0).g t := c.run.other (by omega) fun i hi => by
        rw [c.dst (by omega)]
        exact fun hd => hex ⟨i, hi, hd⟩
      rw [e1, e2]
  obtain ⟨_, hdst, _, hguard⟩ := giOf_some hgi
  have hon' : onG g.g (Es ops.size) = true := by
    rw [← hon]
    refine onG_congr fun d want hgd => ?_
    rcases hguard with ⟨_, h2⟩ | ⟨i, want', dj, h1, h2, h3⟩
    · rw [h2] at hgd; cases hgd
    · rw [h3] at hgd; cases hgd
      exact hsame _ (by rw [looksAt_get ho]; exact looksAt_guard h1 h2)
  unfold stays at h
  rw [hg] at h
  simp only [hon', cond_true] at h
  split at h
  · rename_i d hd
    split at h
    · rename_i v K' hr
      have hv : (Es ops.size).g d = vs j := c.run.own c.ddist (by simp [gdst, hg, hd]) (by omega) (by omega)
      rw [hv] at h
      rw [runI_congr g.ins ev fun t ht => hsame t (c.uses ho hg t ht)] at hr
      rw [sameA_eq h] at hr
      exact ⟨K', hr⟩
    · cases h
  · cases h

/-- The next state's form. -/
def Nxt (D : List Deferred) (P : Program) (nt : Nat) (ops : Array Oper) (gs : List GI) (b : List Nat) (Es : Nat → Env) (Hs : Nat → Heap) (vs : Nat → Value) (ρ0 : Ren) (w0 : World) (listed : Array Bool) (a : Act) (w : World) : Prop :=
  ∃ ρ E m0, St D P nt ops gs b Es Hs vs ρ0 w0 listed ρ E a w m0

theorem St.nextWriter (c : Ctx P nt ops gs b ps ev Es Hs vs) (h : St D P nt ops gs b Es Hs vs ρ0 w0 listed ρ E a w m0) (ht : Turn ops gs b listed j) (hs : sortAt gs j = 3) : m0 ≤ j ∧ ∀ q, m0 ≤ q → q < j → sortAt gs q ≠ 3 := by
  have hjn := ht.lt
  constructor
  · rcases Nat.lt_or_ge j m0 with h1 | h1
    · exact absurd ((h.wr j hjn hs).2 h1) ht.new
    · exact h1
  · intro q h1 h2 h3
    cases hw : waitB b q j with
    | true =>
      have := (h.wr q (by omega) h3).1 (ht.all q (by omega) hw)
      omega
    | false => exact (c.chk.free h2 hjn hw).2.2 ⟨hs, by omega⟩

theorem St.step (c : Ctx P nt ops gs b ps ev Es Hs vs) (h : St D P nt ops gs b Es Hs vs ρ0 w0 listed ρ E a w m0) (ht : Turn ops gs b listed j) (Q : Exit → Act → World → Prop) :
    wpOp P ops Q j (Nxt D P nt ops gs b Es Hs vs ρ0 w0 (listed.setIfInBounds j true)) a w := by
  have hjn := ht.lt
  have hlen := c.chk.len
  have hm0n := h.wst.le
  have ho : ops[j]? = some ops[j] := by simp [hjn]
  generalize ops[j] = o at ho
  obtain ⟨g, hg, hgi⟩ := c.comp j o ho
  obtain ⟨hins, hdst, hdlt, hguard⟩ := giOf_some hgi
  have hlook := looksAt_get ho
  have hdo := dstAt_get ho
  have hsrt := sortAt_get hg
  have hdom : ∀ b l, ρ b = some l → l.blk < w.heap.size := fun b l hb => h.wst.dom hb
  have hAR := h.frame c ht
  have hwanted : Region.wanted o (yielded ops a.tmps) = onG g.g (Es j) := by
    rw [← cut_yielded hgi a, ← hlook, wanted_eq hAR hgi]
    refine onG_congr fun d want hgd => ?_
    rcases hguard with ⟨_, h2⟩ | ⟨i, want', dj, h1, h2, h3⟩
    · rw [h2] at hgd; cases hgd
    · rw [h3] at hgd; cases hgd
      have hmem : d ∈ looksAt ops.toList j := by rw [hlook]; exact looksAt_guard h1 h2
      rw [cutEnv_g, if_pos hmem]
      exact (h.agree c ht hmem).1
  have hmore : sortAt gs j ≠ 2 → Wst P ops.size Hs (sortAt gs) ρ0 w0 (fun i => i = j ∨ Ld listed i) ρ w m0 := by
    intro hne
    refine h.wst.more (fun i => .inr) fun i x h1 h2 h3 h4 => ?_
    rcases h1 with rfl | h1
    · exact absurd h4.2.1 hne
    · exact absurd h1 h2
  unfold wpOp
  rw [ho]
  simp only [hwanted]
  rcases c.run.step j g hg with ⟨hon, hrun, _⟩ | ⟨hon, hstill, hundef, _⟩
  · rw [hon, if_pos rfl]
    left
    have hEs : ∀ K r, runI g.ins ev (Es j) K = some r → runI g.ins ev (cutEnv (looksAt ops.toList j) E) K = some r := by
      intro K r hr
      rw [← hr]
      refine runI_congr g.ins ev (fun t htu => ?_) K
      have hmem := c.uses ho hg t htu
      rw [cutEnv_g, if_pos hmem]
      exact (h.agree c ht hmem).1
    have hexec : execOp (cutAct (looksAt ops.toList j) a).eval o = execOp a.eval o := by rw [hlook]; exact cut_exec hins a
    -- those that leave the world alone
    have look : ∀ m, m ≤ max m0 j → Sim P (cutR ρ (Hs m).next) (Hs m) w → g.ins.sort ≤ 1 → runI g.ins ev (Es j) ⟨(Hs (max m0 j)).next, (Hs m).tr⟩ = some (vs j, ⟨(Hs (max m0 j)).next, (Hs m).tr⟩) →
        o.wp P a w (Nxt D P nt ops gs b Es Hs vs ρ0 w0 (listed.setIfInBounds j true)) Q := by
      intro m hm hsim hsort hr
      have hK := hsim.wider rfl (c.mono m (max m0 j) hm (by omega)) hdom
      obtain ⟨_, _, v', hrun', hv⟩ := (ins_both c.hdep c.hF o hins hAR hK (hEs _ _ hr)).1 hsort
      rw [hexec] at hrun'
      unfold Oper.wp
      rw [hrun']
      refine ⟨ρ, putD E (dstAt ops.toList j) (vs j), m0, ?_⟩
      rw [← hdo]
      exact h.put c ht ρ.le_refl (Nat.le_refl _) (hmore (by rw [hsrt]; omega)) (hv.mono (cutR_le ρ (c.mono _ _ (by omega) (by omega)))) (.inl ⟨rfl, by rw [hsrt]; omega⟩)
    have hle3 := Ins.sort_le g.ins
    have hcases : g.ins.sort = 0 ∨ g.ins.sort = 1 ∨ g.ins.sort = 2 ∨ g.ins.sort = 3 := by omega
    rcases hcases with hs | hs | hs | hs
    · exact look m0 (by omega) h.wst.j1 (by omega) ((pure_run hs hrun).2 _)
    · -- a reading
      have fin : ∀ m, m ≤ max m0 j → Sim P (cutR ρ (Hs m).next) (Hs m) w → (∃ K', runI g.ins ev (Es j) (Hs m) = some (vs j, K')) → o.wp P a w (Nxt D P nt ops gs b Es Hs vs ρ0 w0 (listed.setIfInBounds j true)) Q := by
        intro m hm hsim ⟨K', hr⟩
        exact look m hm hsim (by omega) ((read_run hs hr).2 _)
      rcases Nat.lt_or_ge j m0 with hlt | hge
      · rcases h.top with h0 | ⟨q, hq, hqs⟩
        · omega
        · have hqn : q < ops.size := by omega
          have hjq : j ≠ q := fun e => by subst e; rw [hsrt] at hqs; omega
          have hLq := (h.wr q hqn hqs).2 (by omega)
          cases hw : waitB b j q with
          | true => exact absurd (h.closed j q hjn hqn hw hLq) ht.new
          | false =>
            have hp := (c.psm j q (by omega) hqn hw).1 (by rw [hsrt]; exact hs) hqs
            have hst := (c.stay j q hp hqn).2
            rw [← hq] at hst
            exact fin m0 (by omega) h.wst.j1 (c.stays_run ho hg hgi hs hon hp hst)
      · by_cases hex : ∃ q, m0 ≤ q ∧ q < j ∧ sortAt gs q = 3
        · -- the first of them
          have hmin : ∃ q, m0 ≤ q ∧ q < j ∧ sortAt gs q = 3 ∧ ∀ q', m0 ≤ q' → q' < q → sortAt gs q' ≠ 3 := by
            obtain ⟨q, h1, h2, h3⟩ := hex
            induction q using Nat.strongRecOn with
            | _ q ih =>
              by_cases hq : ∃ q', m0 ≤ q' ∧ q' < q ∧ sortAt gs q' = 3
              · obtain ⟨q', a1, a2, a3⟩ := hq
                exact ih q' a2 a1 (by omega) a3
              · exact ⟨q, h1, h2, h3, fun q' a1 a2 a3 => hq ⟨q', a1, a2, a3⟩⟩
          obtain ⟨q, h1, h2, h3, h4⟩ := hmin
          have hqn : q < ops.size := by omega
          cases hw : waitB b q j with
          | true =>
            have := (h.wr q hqn h3).1 (ht.all q hqn hw)
            omega
          | false =>
            have hp := (c.psm q j h2 hjn hw).2 h3 (by rw [hsrt]; exact hs)
            have hst := (c.stay j q hp hqn).1
            exact fin q (by omega) (h.reach c h1 (by omega) h4).j1 (c.stays_run ho hg hgi hs hon hp hst)
        · exact fin j (by omega) (h.reach c hge (by omega) fun q h1 h2 h3 => hex ⟨q, h1, h2, h3⟩).j1 ⟨_, hrun⟩
    · -- a block is made
      have hge : m0 ≤ j := by
        rcases Nat.lt_or_ge j m0 with h1 | h1
        · exact absurd (h.mks j hjn (by rw [hsrt]; exact hs) h1) ht.new
        · exact h1
      obtain ⟨x, hx1, hx2, hx3⟩ := make_run hs hrun
      have hMj : max m0 j = j := by omega
      rw [hMj] at hAR
      have hK : Sim P (cutR ρ (Hs j).next) ⟨(Hs j).next, .nil⟩ w := .bare hdom
      have hcore := (ins_both c.hdep c.hF o hins hAR hK (hEs _ _ (hx3 ⟨(Hs j).next, .nil⟩ rfl))).2
      rw [hexec] at hcore
      refine hcore o a _ Q fun ρ' v' w' q1 q2 q3 => ?_
      have hmk : Mk ops.size Hs (sortAt gs) j x := ⟨hjn, by rw [hsrt]; exact hs, hx2, hx1⟩
      obtain ⟨ρ1, r1, r2, r3⟩ := h.wst.made c.mono hge ht.new hmk q2 q3
      refine ⟨ρ1, putD E (dstAt ops.toList j) (vs j), m0, ?_⟩
      rw [← hdo]
      refine h.put c ht r1 (Nat.le_refl _) r3 ?_ (.inl ⟨rfl, by rw [hsrt]; omega⟩)
      have : max m0 (j + 1) = j + 1 := by omega
      rw [this, hx2]
      show VR (cutR ρ1 ((Hs j).next + 1)) _ _
      rw [r2]
      exact q1
    · -- a writer
      have hs3 : sortAt gs j = 3 := by rw [hsrt]; exact hs
      obtain ⟨hge, hno⟩ := h.nextWriter c ht hs3
      have hwst := h.reach c hge (by omega) hno
      have hMj : max m0 j = j := by omega
      rw [hMj] at hAR
      have hcore := (ins_both c.hdep c.hF o hins hAR hwst.j1 (hEs _ _ hrun)).2
      rw [hexec] at hcore
      refine hcore o a _ Q fun ρ' v' w' q1 q2 q3 => ?_
      obtain ⟨ρ1, r1, r2, r3⟩ := hwst.wrote c.mono hjn (by rw [hs3]; omega) q2 q3
      refine ⟨ρ1, putD E (dstAt ops.toList j) (vs j), j + 1, ?_⟩
      rw [← hdo]
      refine h.put c ht r1 (by omega) r3 ?_ (.inr ⟨rfl, hs3⟩)
      rw [Nat.max_self, r2]
      exact q1
  · rw [hon, if_neg (by simp)]
    rw [← hdo]
    have hnomk : ∀ x, ¬ Mk ops.size Hs (sortAt gs) j x := by
      intro x hx
      have := hx.lt c.mono (Nat.lt_succ_self j) (by omega)
      rw [hstill] at this
      omega
    by_cases hs3 : sortAt gs j = 3
    · obtain ⟨hge, hno⟩ := h.nextWriter c ht hs3
      have hwst := (h.reach c hge (by omega) hno).next c.mono hjn (.inl hstill)
      refine ⟨ρ, putD E (dstAt ops.toList j) (vs j), j + 1, ?_⟩
      refine h.put c ht ρ.le_refl (by omega) (hwst.more (fun i => .inr) fun i x h1 h2 h3 h4 => ?_) (by rw [hundef]; exact .undef) (.inr ⟨rfl, hs3⟩)
      rcases h1 with rfl | h1
      · exact absurd h4 (hnomk x)
      · exact absurd h1 h2
    · refine ⟨ρ, putD E (dstAt ops.toList j) (vs j), m0, ?_⟩
      refine h.put c ht ρ.le_refl (Nat.le_refl _) (h.wst.more (fun i => .inr) fun i x h1 h2 h3 h4 => ?_) (by rw [hundef]; exact .undef) (.inl ⟨rfl, hs3⟩)
      rcases h1 with rfl | h1
      · exact absurd h4 (hnomk x)
      · exact absurd h1 h2
end

end Go.Rx
