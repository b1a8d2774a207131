/- Code: what the abstract machine makes of it, every real run makes. -/
import Derived.Test.YtabhplelhjcdiaaRxIns2
import Derived.LoopN
/- Code: what the abstract machine makes of it, every real run makes. -/
set_option linter.unusedVariables false
set_option linter.unusedSimpArgs false
namespace Go.Rx

variable {D : List Deferred}
variable {P : Program} {ρ : Ren} {H H' : Heap} {w : World} {e e' : Env} {a : Act} {nt : Nat} {v : Value}

theorem gisOf_cons {ops : Array Oper} {o : Oper} {l : List Oper} {gs : List GI} (h : gisOf P nt ops (o :: l) = some gs) : ∃ g r, gs = g :: r ∧ giOf P nt ops o = some g ∧ gisOf P nt ops l = some r := by
  simp only [gisOf] at h
  split at h
  · rename_i g r h1 h2
    cases h
    exact ⟨g, r, rfl, h1, h2⟩
  · cases h

theorem runB_nil (ev : Ev) (e : Env) (h : Heap) : runB ev [] e h = some (e, h) := rfl
theorem runB_cons (ev : Ev) (g : GI) (l : List GI) (e : Env) (h : Heap) : runB ev (g :: l) e h = bif onG g.g e then runB1 (runB ev l) g.dst e (runI g.ins ev e h) else runB ev l (putD e g.dst undef) h := rfl
theorem runB1_some {k : Env → Heap → RE} {d : Option Nat} {x : R} {r : Env × Heap} (h : runB1 k d e x = some r) : ∃ v h1, x = some (v, h1) ∧ k (putD e d v) h1 = some r := by
  cases x with
  | none => cases h
  | some p =>
    refine ⟨p.1, p.2, rfl, ?_⟩
    have : forceV p.1 (fun v => k (putD e d v) p.2) = some r := h
    rwa [forceV_eq] at this

/-- What is left behind, whatever comes next. -/
def After (D : List Deferred) (P : Program) (nt : Nat) (ρ : Ren) (H : Heap) (w : World) (e' : Env) (H' : Heap) (K : Act → World → Prop) : Prop :=
  ∀ ρ' a' w', AR D ρ' nt e' a' → Sim P ρ' H' w' → Stp ρ H w ρ' H' w' → K a' w'

theorem After.step {ρ1 : Ren} {H1 : Heap} {w1 : World} {K : Act → World → Prop} (h : After D P nt ρ H w e' H' K) (hs : Stp ρ H w ρ1 H1 w1) : After D P nt ρ1 H1 w1 e' H' K :=
  fun ρ' a' w' h1 h2 h3 => h ρ' a' w' h1 h2 (hs.trans h3)

theorem runB_sound (hdep : 50 ≤ P.depth) {ev : Ev} (hF : FSound P ev.f) {ops : Array Oper} {Q : Exit → Act → World → Prop} : ∀ (l : List Oper) (gs : List GI) (e : Env) (H : Heap) (ρ : Ren) (a : Act) (w : World), gisOf P nt ops l = some gs → runB ev gs e H = some (e', H') →
    AR D ρ nt e a → Sim P ρ H w → After D P nt ρ H w e' H' (Q .normal) → wpList P ops Q l a w
  | [], gs, e, H, ρ, a, w, hg, hr, ha, hs, hq => by
    cases hg
    rw [runB_nil] at hr
    cases hr
    exact hq ρ a w ha hs (.refl _ _ _)
  | o :: l, gs, e, H, ρ, a, w, hg, hr, ha, hs, hq => by
    obtain ⟨g, r, rfl, h1, h2⟩ := gisOf_cons hg
    obtain ⟨hi, hd, hlt, _⟩ := giOf_some h1
    rw [runB_cons] at hr
    have hw := wanted_eq ha h1
    unfold wpList
    rw [hw]
    cases hon : onG g.g e with
    | true =>
      rw [hon] at hr
      simp only [cond_true] at hr
      obtain ⟨u, H1, hx, hk⟩ := runB1_some hr
      rw [if_pos rfl]
      refine .inl (ins_sound hdep hF o hi ha hs hx o a _ _ fun ρ1 v1 w1 q1 q2 q3 => ?_)
      rw [hd] at hk
      exact runB_sound hdep hF l r _ H1 ρ1 _ w1 h2 hk ((ha.mono q3.le).put q1 hlt) q2 (hq.step q3)
    | false =>
      rw [hon] at hr
      simp only [cond_false] at hr
      rw [if_neg (by simp)]
      rw [hd] at hr
      exact runB_sound hdep hF l r _ H ρ _ w h2 hr (ha.put .undef hlt) hs hq

def exOf : Ex → Exit
  | .normal => .normal
  | .exit id => .exit id
  | .ret => .ret

/-- Code is sound. -/
def CS (D : List Deferred) (P : Program) (ev : Ev) : Prop :=
  ∀ (nt : Nat) (c : Code) (ac : AC) (e : Env) (H : Heap) (x : Ex) (e' : Env) (H' : Heap), acOf P nt c = some ac → ev.c ac e H = some (x, e', H') →
    ∀ (ρ : Ren) (a : Act) (w : World) (Q : Exit → Act → World → Prop), AR D ρ nt e a → Sim P ρ H w → After D P nt ρ H w e' H' (Q (exOf x)) → c.wp P Q a w
/-- Loops are sound, round by round. -/
def LS (D : List Deferred) (P : Program) (ev : Ev) : Prop :=
  ∀ (nt : Nat) (c : Code) (ac : AC) (e : Env) (H : Heap) (x : Ex) (e' : Env) (H' : Heap), acOf P nt c = some ac → ev.c (.loop ac) e H = some (x, e', H') →
    ∃ n, ∀ (ρ : Ren) (a : Act) (w : World) (Q : Exit → Act → World → Prop), AR D ρ nt e a → Sim P ρ H w → After D P nt ρ H w e' H' (Q (exOf x)) → Code.rounds P c Q n a w
/-- Regions whose order is open are sound. -/
def DS (D : List Deferred) (P : Program) (ev : Ev) : Prop :=
  ∀ (nt : Nat) (id : Nat) (ops : Array Oper) (gs : List GI) (ps : List (Nat × Nat)) (e : Env) (H : Heap) (e' : Env) (H' : Heap), gisOf P nt ops ops.toList = some gs → drawn ops.toList gs = some ps → runD ev gs ps e H = some (e', H') →
    ∀ (ρ : Ren) (a : Act) (w : World) (Q : Exit → Act → World → Prop), AR D ρ nt e a → Sim P ρ H w → After D P nt ρ H w e' H' (Q .normal) → (Code.region id ops true).wp P Q a w

theorem regC_some {x : RE} {r : Ex × Env × Heap} (h : regC x = some r) : r.1 = .normal ∧ x = some r.2 := by
  cases x with
  | none => cases h
  | some p => cases h; exact ⟨rfl, rfl⟩

theorem thenC_some {r : Ev} {b : AC} {y : RC} {x : Ex} (h : thenC r b y = some (x, e', H')) :
    (∃ e1 H1, y = some (.normal, e1, H1) ∧ r.c b e1 H1 = some (x, e', H')) ∨ (x ≠ .normal ∧ y = some (x, e', H')) := by
  unfold thenC at h
  split at h
  · exact .inl ⟨_, _, rfl, h⟩
  · cases h; exact .inr ⟨by simp, rfl⟩
  · cases h; exact .inr ⟨by simp, rfl⟩
  · cases h

theorem exit_then {next : Act → World → Prop} {Q : Exit → Act → World → Prop} {x : Ex} (hx : x ≠ .normal) : Exit.then next Q (exOf x) = Q (exOf x) := by
  cases x with
  | normal => exact absurd rfl hx
  | exit id => rfl
  | ret => rfl

theorem loops_round {r : Ev} (hC : CS D P r) (hL : LS D P r) : LS D P ⟨r.f, stepC r⟩ := by
  intro nt c ac e H x e' H' hc hr
  have hr' : thenC r (.loop ac) (r.c ac e H) = some (x, e', H') := hr
  rcases thenC_some hr' with ⟨e1, H1, h1, h2⟩ | ⟨hx, h1⟩
  · obtain ⟨n, hn⟩ := hL nt c ac e1 H1 x e' H' hc h2
    refine ⟨n + 1, fun ρ a w Q ha hs hq => ?_⟩
    rw [rounds_succ]
    exact hC nt c ac e H .normal e1 H1 hc h1 ρ a w _ ha hs fun ρ1 a1 w1 q1 q2 q3 => hn ρ1 a1 w1 Q q1 q2 (hq.step q3)
  · refine ⟨1, fun ρ a w Q ha hs hq => ?_⟩
    rw [rounds_succ]
    refine hC nt c ac e H x e' H' hc h1 ρ a w _ ha hs ?_
    rw [exit_then hx]
    exact hq

theorem code_sound (hdep : 50 ≤ P.depth) {r : Ev} (hF : FSound P r.f) (hC : CS D P r) (hL : LS D P r) (hD : DS D P r) : CS D P ⟨r.f, stepC r⟩ := by
  intro nt c ac e H x e' H' hc hr ρ a w Q ha hs hq
  have hr : stepC r ac e H = some (x, e', H') := hr
  cases c with
  | skip =>
    cases hc
    cases hr
    exact wp_skip (hq ρ a w ha hs (.refl _ _ _))
  | ret =>
    cases hc
    cases hr
    exact wp_ret (hq ρ a w ha hs (.refl _ _ _))
  | exit id =>
    cases hc
    cases hr
    exact wp_exit (hq ρ a w ha hs (.refl _ _ _))
  | seq c d =>
    simp only [acOf] at hc
    split at hc
    · rename_i ax bx h1 h2
      cases hc
      have hr' : thenC r bx (r.c ax e H) = some (x, e', H') := hr
      refine wp_seq ?_
      rcases thenC_some hr' with ⟨e1, H1, g1, g2⟩ | ⟨hx, g1⟩
      · exact hC nt c ax e H .normal e1 H1 h1 g1 ρ a w _ ha hs fun ρ1 a1 w1 q1 q2 q3 => hC nt d bx e1 H1 x e' H' h2 g2 ρ1 a1 w1 Q q1 q2 (hq.step q3)
      · refine hC nt c ax e H x e' H' h1 g1 ρ a w _ ha hs ?_
        rw [exit_then hx]
        exact hq
    · cases hc
  | cond b c d =>
    simp only [acOf] at hc
    split at hc
    · rename_i bx cx dx h0 h1 h2
      cases hc
      have h3 := opd h0 ha
      have hr' : condC (bx.v e) r cx dx e H = some (x, e', H') := hr
      generalize bx.v e = u at h3 hr'
      unfold condC at hr'
      split at hr'
      · rename_i t
        generalize hbv : a.eval b = bv at h3
        cases h3
        refine wp_cond hbv ?_
        cases t
        · exact hC nt d dx e H x e' H' h2 hr' ρ a w Q ha hs hq
        · exact hC nt c cx e H x e' H' h1 hr' ρ a w Q ha hs hq
      · cases hr'
    · cases hc
  | block id c =>
    simp only [acOf] at hc
    obtain ⟨cx, h1, rfl⟩ := map_some' hc
    have hr' : blockC id (r.c cx e H) = some (x, e', H') := hr
    refine wp_block ?_
    unfold blockC at hr'
    split at hr'
    · rename_i id' e1 H1 hrc
      cases hb : Nat.beq id' id with
      | true =>
        rw [hb] at hr'
        cases hr'
        obtain rfl := Nat.eq_of_beq_eq_true hb
        refine hC nt c cx e H (.exit id') e' H' h1 hrc ρ a w _ ha hs ?_
        have : Exit.inBlock id' Q (exOf (.exit id')) = Q .normal := by funext a w; simp [exOf, Exit.inBlock]
        rw [this]
        exact hq
      | false =>
        rw [hb] at hr'
        cases hr'
        have hne : ¬ id' = id := fun h => by subst h; rw [Nat.beq_refl] at hb; cases hb
        refine hC nt c cx e H (.exit id') e' H' h1 hrc ρ a w _ ha hs ?_
        have : Exit.inBlock id Q (exOf (.exit id')) = Q (.exit id') := by funext a w; simp [exOf, Exit.inBlock, hne]
        rw [this]
        exact hq
    · rename_i e1 H1 hrc
      cases hr'
      exact hC nt c cx e H .normal e' H' h1 hrc ρ a w _ ha hs hq
    · rename_i e1 H1 hrc
      cases hr'
      exact hC nt c cx e H .ret e' H' h1 hrc ρ a w _ ha hs hq
    · cases hr'
  | loop c =>
    simp only [acOf] at hc
    obtain ⟨cx, h1, rfl⟩ := map_some' hc
    obtain ⟨n, hn⟩ := loops_round hC hL nt c cx e H x e' H' h1 hr
    exact wp_loop_rounds n (hn ρ a w Q ha hs hq)
  | region id ops draw =>
    simp only [acOf] at hc
    split at hc
    · rename_i gs hgs
      cases draw with
      | false =>
        cases hc
        obtain ⟨rfl, hx⟩ := regC_some hr
        exact wp_region_list (runB_sound hdep hF _ _ _ _ _ _ _ hgs hx ha hs hq)
      | true =>
        simp only [if_true] at hc
        obtain ⟨ps, hps, rfl⟩ := map_some' hc
        obtain ⟨rfl, hx⟩ := regC_some hr
        exact hD nt id ops gs ps e H e' H' hgs hps hx ρ a w Q ha hs hq
    · cases hc
  | _ => cases hc

/-! ### Functions -/
theorem load_one (hs : Sim P ρ H w) {t : TypeId} {x x' : Value} (hg : aggO P t = some false) (hr : iLoad x H = some (v, H')) (hx : VR ρ x x') : ∃ v', (do loadVar t (← asAddr x') : Sem Value).run P w = .ok v' w ∧ VR ρ v v' := by
  cases hx with
  | ptr ad l hl hsp =>
    simp only [iLoad] at hr
    cases hrd : rdCells H ad 1 with
    | none => rw [hrd] at hr; cases hr
    | some vs =>
      rw [hrd] at hr
      match vs, hr, hrd with
      | [v1], hr, hrd =>
        simp only [one, Option.some.injEq, Prod.mk.injEq] at hr
        obtain ⟨rfl, rfl⟩ := hr
        obtain ⟨vs', hlen, hvr, hcell⟩ := hs.rd hl hrd
        match vs', hlen, hvr, hcell with
        | [u], _, .cons _ _ _ _ hv _, hcell =>
          have hc := hcell 0 u (by simp)
          rw [Addr.add_place] at hc
          simp only [Nat.add_zero] at hc
          exact ⟨u, by simp [asAddr, loadVar, run_isAgg hg, hc], hv⟩
      | [], hr, _ => cases hr
      | _ :: _ :: _, hr, _ => cases hr
  | _ => cases hr

theorem load_many (hs : Sim P ρ H w) {t : TypeId} {n : Nat} {x x' : Value} (hg : aggO P t = some true) (hn : sizeO P t = some n) (hr : iLoadn x n H = some (v, H')) (hx : VR ρ x x') : ∃ v', (do loadVar t (← asAddr x') : Sem Value).run P w = .ok v' w ∧ VR ρ v v' := by
  cases hx with
  | ptr ad l hl hsp =>
    simp only [iLoadn] at hr
    cases hrd : rdCells H ad n with
    | none => rw [hrd] at hr; cases hr
    | some vs =>
      rw [hrd] at hr
      simp only [aggR, Option.some.injEq, Prod.mk.injEq] at hr
      obtain ⟨rfl, rfl⟩ := hr
      obtain ⟨vs', hlen, hvr, hcell⟩ := hs.rd hl hrd
      have hld := run_loadCells_list (P := P) w _ vs' hcell
      rw [hlen] at hld
      exact ⟨.agg ⟨vs'⟩, by simp [asAddr, loadVar, run_isAgg hg, run_sizeOf hn, hld], .agg _ _ hvr⟩
  | _ => cases hr

def resOne (a : Act) : ResultVar → Sem Value
  | .tmp t => pure (a.tmps.getD t undef)
  | .cell c t => do loadVar t (← asAddr (a.tmps.getD c undef))

theorem results_rel (ha : AR D ρ nt e a) (hs : Sim P ρ H w) : ∀ (l : List ResultVar) (rs : List (Nat × Option (Option Nat))) (vs : List Value), resO P l = some rs → resL e H rs = some vs →
    ∃ vs', (l.mapM (resOne a)).run P w = .ok vs' w ∧ VRL ρ vs vs'
  | [], rs, vs, h, hr => by
    cases h
    cases hr
    exact ⟨[], by simp, .nil⟩
  | x :: l, rs, vs, h, hr => by
    have tail : ∀ (y : Nat × Option (Option Nat)) (rs' : List (Nat × Option (Option Nat))), resO P l = some rs' → resL e H (y :: rs') = some vs → (∀ u, res1 e H y = some u → ∃ u', (resOne a x).run P w = .ok u' w ∧ VR ρ u u') →
        ∃ vs', ((x :: l).mapM (resOne a)).run P w = .ok vs' w ∧ VRL ρ vs vs' := by
      intro y rs' h1 h2 h3
      simp only [resL] at h2
      split at h2
      · rename_i u hu
        split at h2
        · rename_i us hus
          cases h2
          obtain ⟨u', q1, q2⟩ := h3 u hu
          obtain ⟨us', q3, q4⟩ := results_rel ha hs l rs' us h1 hus
          exact ⟨u' :: us', by simp [List.mapM_cons, q1, q3], .cons _ _ _ _ q2 q4⟩
        · cases h2
      · cases h2
    cases x with
    | tmp t =>
      simp only [resO] at h
      obtain ⟨rs', h1, rfl⟩ := map_some' h
      refine tail _ _ h1 hr fun u hu => ?_
      cases hu
      exact ⟨_, rfl, ha.slot t⟩
    | cell c t =>
      simp only [resO] at h
      split at h
      · rename_i n rs' g1 g2 g3
        cases h
        refine tail _ _ g3 hr fun u hu => ?_
        simp only [res1] at hu
        split at hu
        · rename_i u1 h1 hl
          cases hu
          exact load_many hs g1 g2 hl (ha.slot c)
        · cases hu
      · rename_i n rs' g1 g2 g3
        cases h
        refine tail _ _ g3 hr fun u hu => ?_
        simp only [res1] at hu
        split at hu
        · rename_i u1 h1 hl
          cases hu
          exact load_one hs g1 hl (ha.slot c)
        · cases hu
      · cases h

theorem results_run (ha : AR D ρ nt e a) (hs : Sim P ρ H w) {fn : Func} {rs : List (Nat × Option (Option Nat))} (h : resO P fn.results.toList = some rs) (hr : resV e H rs = some v) :
    ∃ v', (results fn a.tmps).run P w = .ok v' w ∧ VR ρ v v' := by
  unfold resV at hr
  have hfun : results fn a.tmps = (do let vs ← fn.results.mapM (resOne a); pure (if h : vs.size = 1 then vs[0] else .tuple vs) : Sem Value) := by
    unfold results
    congr 1
  split at hr
  · rename_i u hu
    cases hr
    obtain ⟨vs', h1, h2⟩ := results_rel ha hs _ _ _ h hu
    cases h2 with
    | cons _ u' _ l' q1 q2 =>
      cases q2
      refine ⟨u', ?_, q1⟩
      rw [hfun, Array.mapM_eq_mapM_toList]
      simp [h1]
  · rename_i vs hne hu
    cases hr
    obtain ⟨vs', h1, h2⟩ := results_rel ha hs _ _ _ h hu
    have hlen : vs'.length ≠ 1 := by
      rw [← h2.length]
      intro hl
      match vs, hl with
      | [x], _ => exact hne x rfl
    refine ⟨.tuple ⟨vs'⟩, ?_, .tuple _ _ h2⟩
    rw [hfun, Array.mapM_eq_mapM_toList]
    simp [h1, hlen]
  · cases hr

/-- The slots a function begins with. -/
theorem envOf_cons (v : Value) (l : List Value) (i : Nat) (e : Env) : envOf (v :: l) i e = envOf l (i + 1) (e.s i v) := rfl
theorem envOf_g : ∀ (l : List Value) (i : Nat) (e : Env) (t : Nat), (envOf l i e).g t = if i ≤ t ∧ t < i + l.length then (l[t - i]?).getD undef else e.g t
  | [], i, e, t => by rw [if_neg (fun h => by simp at h; omega)]; rfl
  | v :: l, i, e, t => by
    rw [envOf_cons, envOf_g l (i + 1) _ t, Env.g_s]
    simp only [List.length_cons]
    by_cases h1 : i + 1 ≤ t ∧ t < i + 1 + l.length
    · rw [if_pos h1, if_pos (by omega)]
      have : t - i = (t - (i + 1)) + 1 := by omega
      rw [this]; simp
    · rw [if_neg h1]
      by_cases h2 : i = t
      · subst h2; rw [if_pos rfl, if_pos (by omega)]; simp
      · rw [if_neg h2, if_neg (by omega)]

theorem enter_AR {args args' : List Value} (h : VRL ρ args args') : AR [] ρ nt (envOf args 0 .nil) { tmps := (⟨args'⟩ : Array Value) ++ Array.replicate (nt - args'.length) undef, defers := [] } := by
  refine ⟨by simp; omega, rfl, fun t => ?_⟩
  rw [envOf_g]
  have hl := h.length
  simp only [Nat.zero_le, true_and, Nat.zero_add, Nat.sub_zero]
  rw [Array.getD_eq_getD_getElem?, Array.getElem?_append]
  by_cases ht : t < args.length
  · rw [if_pos ht, if_pos (by simp; omega)]
    obtain ⟨q, h1, h2⟩ := h.get t _ (List.getElem?_eq_getElem ht)
    rw [List.getElem?_eq_getElem ht]
    simp only [List.getElem?_toArray, h1, Option.getD_some]
    exact h2
  · rw [if_neg ht, if_neg (by simp; omega), Env.g_nil]
    have : ((Array.replicate (nt - args'.length) undef)[t - (⟨args'⟩ : Array Value).size]?).getD undef = undef := by
      rw [Array.getElem?_replicate]
      split <;> rfl
    rw [this]
    exact .undef

/-- One function's calls are sound. -/
def FS1 (P : Program) (f : Nat) (s : List Value → Heap → R) : Prop :=
  ∀ (args : List Value) (H : Heap) (v : Value) (H' : Heap), s args H = some (v, H') →
    (∃ fn, P.funcs[f]? = some fn ∧ fn.name ≠ "runtime.NumGoroutine" ∧ fn.body.isSome = true) ∧
    ∀ (ρ : Ren) (w : World) (args' : List Value), Sim P ρ H w → VRL ρ args args' →
      Calls P f ⟨args'⟩ w (fun | .returned v', w' => ∃ ρ', VR ρ' v v' ∧ Sim P ρ' H' w' ∧ Stp ρ H w ρ' H' w' | _, _ => False)

theorem afOf_some {f : Nat} {af : AF} (h : afOf P f = some af) : ∃ fn c, P.funcs[f]? = some fn ∧ fn.name ≠ "runtime.NumGoroutine" ∧ fn.body = some c ∧ acOf P fn.ntmps c = some af.body ∧ resO P fn.results.toList = some af.results := by
  unfold afOf at h
  split at h
  · rename_i fn hfn
    split at h
    · cases h
    · rename_i hname
      split at h
      · rename_i c hc
        split at h
        · rename_i x r h1 h2
          split at h
          · cases h
            exact ⟨fn, c, hfn, by simpa using hname, hc, h1, h2⟩
          · cases h
        · cases h
      · cases h
  · cases h

theorem fun_sound {r : Ev} (hC : CS [] P r) {f : Nat} {af : AF} (haf : afOf P f = some af) : FS1 P f (fun args h => fEnd af.results (r.c af.body (envOf args 0 .nil) h)) := by
  intro args H v H' hr
  have hr : fEnd af.results (r.c af.body (envOf args 0 .nil) H) = some (v, H') := hr
  obtain ⟨fn, c, hfn, hname, hbody, hac, hres⟩ := afOf_some haf
  refine ⟨⟨fn, hfn, hname, by rw [hbody]; rfl⟩, fun ρ w args' hs hargs => ?_⟩
  refine calls_of_wp hfn hbody ?_
  have har := enter_AR (nt := fn.ntmps) hargs
  have fin : ∀ (x : Ex) (e' : Env) (H1 : Heap), (x = .normal ∨ x = .ret) → r.c af.body (envOf args 0 .nil) H = some (x, e', H1) → ret H1 (resV e' H1 af.results) = some (v, H') →
      c.wp P (bodyPost P fn (fun | .returned v', w' => ∃ ρ', VR ρ' v v' ∧ Sim P ρ' H' w' ∧ Stp ρ H w ρ' H' w' | _, _ => False)) { tmps := (⟨args'⟩ : Array Value) ++ Array.replicate (fn.ntmps - args'.length) undef, defers := [] } w := by
    intro x e' H1 hx hrun hret
    obtain ⟨hres', rfl⟩ := ret_some hret
    refine hC fn.ntmps c af.body _ H x e' _ hac hrun ρ _ w _ har hs fun ρ1 a1 w1 q1 q2 q3 => ?_
    obtain ⟨v', h1, h2⟩ := results_run q1 q2 hres hres'
    rcases hx with rfl | rfl
    · exact ⟨q1.defers, v', h1, ρ1, h2, q2, q3⟩
    · exact ⟨q1.defers, v', h1, ρ1, h2, q2, q3⟩
  unfold fEnd at hr
  split at hr
  · rename_i e' H1 hrun; exact fin _ _ _ (.inl rfl) hrun hr
  · rename_i e' H1 hrun; exact fin _ _ _ (.inr rfl) hrun hr
  · cases hr

/-- The functions are the program's. -/
def TableOk (P : Program) (F : Nat → Option AF) : Prop := ∀ f af, F f = some af → afOf P f = some af
/-- What is told of functions otherwise holds. -/
def OracleOk (P : Program) (O : Nat → Option (List Value → Heap → R)) : Prop := ∀ f s, O f = some s → FS1 P f s

theorem step_FSound {F : Nat → Option AF} {O : Nat → Option (List Value → Heap → R)} (hT : TableOk P F) (hO : OracleOk P O) {r : Ev} (hC : CS [] P r) : FSound P (stepE F O r).f := by
  intro f args H v H' hr
  simp only [stepE] at hr
  split at hr
  · rename_i s hs
    exact hO f s hs args H v H' hr
  · unfold stepF at hr
    split at hr
    · rename_i af haf
      exact fun_sound hC (hT f af haf) args H v H' hr
    · cases hr

/-- THE MACHINE IS SOUND, if its regions whose order is open are. -/
theorem evN_sound (hdep : 50 ≤ P.depth) {F : Nat → Option AF} {O : Nat → Option (List Value → Heap → R)} (hT : TableOk P F) (hO : OracleOk P O) (hD : ∀ ev, FSound P ev.f → DS [] P ev) : ∀ n, FSound P (evN F O n).f ∧ CS [] P (evN F O n) ∧ LS [] P (evN F O n)
  | 0 => ⟨fun f args H v H' h => (by cases h), fun nt c ac e H x e' H' hc h => (by cases h), fun nt c ac e H x e' H' hc h => (by cases h)⟩
  | n + 1 => by
    obtain ⟨h1, h2, h3⟩ := evN_sound hdep hT hO hD n
    refine ⟨step_FSound hT hO h2, ?_, ?_⟩
    · exact code_sound hdep h1 h2 h3 (hD _ h1)
    · exact loops_round h2 h3
/-- Code, too, in a frame that has laid calls by. -/
theorem evN_CS (hdep : 50 ≤ P.depth) {F : Nat → Option AF} {O : Nat → Option (List Value → Heap → R)} (hF : ∀ n, FSound P (evN F O n).f) (hD : ∀ ev, FSound P ev.f → DS D P ev) : ∀ n, CS D P (evN F O n) ∧ LS D P (evN F O n)
  | 0 => ⟨fun nt c ac e H x e' H' hc h => (by cases h), fun nt c ac e H x e' H' hc h => (by cases h)⟩
  | n + 1 => by
    obtain ⟨h2, h3⟩ := evN_CS hdep hF hD n
    exact ⟨code_sound hdep (hF n) h2 h3 (hD _ (hF n)), loops_round h2 h3⟩

end Go.Rx
