/- Each operation of the abstract machine is the real one's: maps. -/
import Derived.Test.YtabhplelhjcdiaaRxOps10
import Derived.MapKept
/- Each operation of the abstract machine is the real one's: maps. -/
set_option linter.unusedVariables false
set_option linter.unusedSimpArgs false
namespace Go.Rx

variable {P : Program} {ρ : Ren} {H H' : Heap} {w : World} {e : Env} {a : Act} {nt : Nat} {v : Value}

/-! ### Keys -/
theorem keyO_some {kt : TypeId} {ag : Bool} {ks : List Nat} (h : keyO P kt = some (ag, ks)) : aggO P kt = some ag ∧ leafs P 50 kt = some ks := by
  unfold keyO at h
  split at h
  · rename_i b l hb hl
    cases h
    exact ⟨hb, hl⟩
  · cases h

/-- A key's type that is no struct and no array. -/
theorem leafs_scalar {d : Nat} {t : TypeId} {ks : List Nat} (h : leafs P d t = some ks) (hb : aggO P t = some false) :
    (ks = [0] ∧ P.underlying t = some .bool) ∨ (ks = [1] ∧ ∃ q, P.underlying t = some (.int q)) ∨ (ks = [2] ∧ P.underlying t = some .string) := by
  obtain ⟨D, hD, hag⟩ := aggO_under hb
  cases d with
  | zero => simp [leafs] at h
  | succ d =>
    simp only [leafs] at h
    split at h
    · rename_i hu
      split at h
      · cases h; exact .inl ⟨rfl, hu⟩
      · cases h
    · rename_i q hu
      split at h
      · cases h; exact .inr (.inl ⟨rfl, q, hu⟩)
      · cases h
    · rename_i hu
      split at h
      · cases h; exact .inr (.inr ⟨rfl, hu⟩)
      · cases h
    · rename_i fs hu; rw [hu] at hD; cases hD; simp [isAggB] at hag
    · rename_i n e' hu; rw [hu] at hD; cases hD; simp [isAggB] at hag
    · cases h

theorem eqP_same {k : Nat} {x y : Value} (h : eqP k x y = some true) : x = y ∧ ∀ n, Instr.sameBits n x x = true := by
  unfold eqP at h
  split at h
  · rename_i p q
    simp only [Option.some.injEq, beq_iff_eq] at h
    subst h
    exact ⟨rfl, fun n => by simp [Instr.sameBits]⟩
  · rename_i k1 p k2 q
    obtain ⟨hk, hc⟩ := bifS h
    obtain rfl := sameKind_iff hk
    simp only [Option.some.injEq, eqI_eq, beq_iff_eq] at hc
    subst hc
    exact ⟨rfl, fun n => by simp [Instr.sameBits]⟩
  · rename_i p q
    simp only [Option.some.injEq, eqBytes_eq, beq_iff_eq] at h
    have : p = q := by
      apply ByteArray.ext
      apply Array.ext'
      exact h
    subst this
    exact ⟨rfl, fun n => MapKept.sameBits_self (d := .string) (by simp [MapKept.IsKey]) n⟩
  · cases h

theorem eqL_same : ∀ (ks : List Nat) (X Y : List Value), eqL ks X Y = some true → X = Y ∧ ∀ n, (X.zip X).all (fun p => Instr.sameBits n p.1 p.2) = true := by
  intro ks
  induction ks with
  | nil => intro X Y h; cases X <;> cases Y <;> simp [eqL] at h ⊢
  | cons k ks ih =>
    intro X Y h
    cases X with
    | nil => simp [eqL] at h
    | cons x X =>
      cases Y with
      | nil => simp [eqL] at h
      | cons y Y =>
        simp only [eqL] at h
        cases hp : eqP k x y with
        | none => rw [hp] at h; cases h
        | some p =>
          cases hq : eqL ks X Y with
          | none => simp [hp, hq] at h
          | some q =>
            simp only [hp, hq, Option.some.injEq, Bool.and_eq_true] at h
            obtain ⟨rfl, rfl⟩ := h
            obtain ⟨rfl, h1⟩ := eqP_same hp
            obtain ⟨rfl, h2⟩ := ih _ _ hq
            exact ⟨rfl, fun n => by simp only [List.zip_cons_cons, List.all_cons, h1 n, h2 n, Bool.and_self]⟩

theorem keyEq_same {ag : Bool} {ks : List Nat} {x y : Value} (h : keyEq ag ks x y = some true) : x = y ∧ Instr.sameBits 10000 x x = true := by
  cases ag with
  | true =>
    simp only [keyEq, cond_true] at h
    split at h
    · rename_i p q
      obtain ⟨h1, h2⟩ := eqL_same _ _ _ h
      have : p = q := Array.ext' h1
      subst this
      refine ⟨rfl, ?_⟩
      show Instr.sameBits (9999 + 1) _ _ = true
      simp only [Instr.sameBits, beq_self_eq_true, Bool.true_and]
      exact h2 9999
    · cases h
  | false =>
    simp only [keyEq, cond_false] at h
    split at h
    · obtain ⟨h1, h2⟩ := eqP_same h
      exact ⟨h1, h2 _⟩
    · cases h

theorem keyEq_run {kt : TypeId} {ag : Bool} {ks : List Nat} {x y x' y' : Value} {b : Bool} (hk : keyO P kt = some (ag, ks)) (h : keyEq ag ks x y = some b) (hx : VR ρ x x') (hy : VR ρ y y') :
    x' = x ∧ y' = y ∧ ∀ w : World, (Op.equal kt x y).run P w = .ok b w := by
  obtain ⟨hag, hl⟩ := keyO_some hk
  cases ag with
  | true =>
    simp only [keyEq, cond_true] at h
    split at h
    · rename_i p q
      cases hx with
      | agg l l' hl1 =>
        cases hy with
        | agg m m' hm1 =>
          obtain ⟨rfl, rfl⟩ := eqL_rel _ _ _ _ _ _ h hl1 hm1
          refine ⟨rfl, rfl, fun w => ?_⟩
          obtain ⟨D, hD, hagg⟩ := aggO_under hag
          have := eq_leafs 50 10000 (by omega) kt ks hl w _ _ b h
          rw [mkV_agg hD hagg, mkV_agg hD hagg] at this
          exact this
    · cases h
  | false =>
    simp only [keyEq, cond_false] at h
    split at h
    · rename_i k
      obtain ⟨rfl, rfl⟩ := eqP_rel h hx hy
      refine ⟨rfl, rfl, fun w => ?_⟩
      refine eqP_run (D := 9999) h ?_ w
      rcases leafs_scalar hl hag with ⟨h1, h2⟩ | ⟨h1, h2⟩ | ⟨h1, h2⟩
      · cases h1; exact .inl ⟨rfl, h2⟩
      · cases h1; exact .inr (.inl ⟨rfl, h2⟩)
      · cases h1; exact .inr (.inr ⟨rfl, h2⟩)
    · cases h

/-! ### A key has its type's form -/
theorem check_scalar {t : TypeId} {D : TypeDesc} (hu : P.underlying t = some D) (hD : D = .bool ∨ (∃ q, D = .int q) ∨ D = .string) (em : Bool) (n : Nat) (v : Value) (w : World) : (Instr.checkKey em (n + 1) t v).run P w = .ok () w := by
  rcases hD with rfl | ⟨q, rfl⟩ | rfl <;> simp [Instr.checkKey, run_underlying hu]

theorem check_leafs : ∀ (d D : Nat), d ≤ D → ∀ (t : TypeId) (l : List Nat), leafs P d t = some l → ∀ (em : Bool) (w : World) (X : List Value), X.length = l.length → (Instr.checkKey em D t (mkV P t X)).run P w = .ok () w
  | 0, _, _, t, l, h => by simp [leafs] at h
  | d + 1, 0, hd, _, _, _ => by omega
  | d + 1, D + 1, hd, t, l, h => by
    intro em w X hX
    have IH := check_leafs d D (by omega)
    simp only [leafs] at h
    split at h
    · rename_i hu; exact check_scalar hu (.inl rfl) em D _ w
    · rename_i q hu; exact check_scalar hu (.inr (.inl ⟨q, rfl⟩)) em D _ w
    · rename_i hu; exact check_scalar hu (.inr (.inr rfl)) em D _ w
    · rename_i fs hu
      split at h
      · cases h
      · split at h
        · rename_i l' hl'
          split at h
          · rename_i hcells
            cases h
            clear hcells
            have hm : mkV P t X = .agg ⟨X⟩ := by simp [mkV, hu]
            rw [hm, Instr.checkKey]
            simp only [Sem.run_bind, run_underlying hu, Result.andThen_ok]
            rw [← Array.forIn_toList]
            have hle : 0 + l.length ≤ X.length := by omega
            clear hX hm
            revert hl' hle
            generalize fs.toList = L
            generalize 0 = off
            induction L generalizing off l with
            | nil => intro _ _; simp
            | cons f L ih =>
              intro hk hle
              simp only [leafF] at hk
              split at hk
              · rename_i hn
                simp only [bne, Bool.and_eq_true, Bool.not_eq_true', beq_iff_eq] at hn
                obtain ⟨hname, rfl⟩ := hn
                split at hk
                · rename_i l1 hl1
                  split at hk
                  · split at hk
                    · rename_i l2 hl2
                      cases hk
                      simp only [List.length_append] at hle
                      have p1 := run_part_mk hl1 ⟨X⟩ f.offset (by simpa using (by omega : f.offset + l1.length ≤ X.length)) w
                      have p2 := IH f.type l1 hl1 em w ((X.drop f.offset).take l1.length) (by simp; omega)
                      have hnn : f.name ≠ "_" := by simpa using hname
                      simp only [List.forIn_cons, Sem.run_bind, hnn, ne_eq, not_false_eq_true, if_true, p1, p2, Result.andThen_ok, Sem.run_pure]
                      exact ih l2 _ hl2 (by omega)
                    · cases hk
                  · cases hk
                · cases hk
              · cases hk
          · cases h
        · cases h
    · rename_i n e' hu
      split at h
      · rename_i l' hl'
        split at h
        · rename_i hc
          cases h
          have hm : mkV P t X = .agg ⟨X⟩ := by simp [mkV, hu]
          obtain ⟨i, hi⟩ := leafs_info hl'
          have hlen := leafs_length hl'
          have hss : (sizeOf e').run P w = .ok l'.length w := by
            have : i.size = l'.length := by rw [hlen]; simp [Program.cellsOf, hi]
            simp [sizeOf, typeInfo, hi, this]
          rw [repN_length] at hX
          rw [hm, Instr.checkKey]
          simp only [Sem.run_bind, run_underlying hu, Result.andThen_ok]
          simp only [Std.Legacy.Range.forIn_eq_forIn_range', Std.Legacy.Range.size, Nat.sub_zero, Nat.add_one_sub_one, Nat.div_one]
          have hF : ∀ (m s : Nat), (s + m) * l'.length ≤ X.length →
              (forIn (List.range' s m) PUnit.unit (fun i (r : PUnit) => do Instr.checkKey em D e' (← part e' ⟨X⟩ (i * (← sizeOf e'))); pure (ForInStep.yield PUnit.unit)) : Sem PUnit).run P w = .ok () w := by
            intro m
            induction m with
            | zero => intro s _; simp
            | succ m ih =>
              intro s hle
              have hmul : (s + (m + 1)) * l'.length = s * l'.length + l'.length + m * l'.length := by
                rw [show s + (m + 1) = s + 1 + m by omega, Nat.add_mul, Nat.add_mul]; omega
              rw [hmul] at hle
              have p1 := run_part_mk hl' ⟨X⟩ (s * l'.length) (by simpa using (by omega : s * l'.length + l'.length ≤ X.length)) w
              have p2 := IH e' l' hl' em w ((X.drop (s * l'.length)).take l'.length) (by simp; omega)
              rw [List.range'_succ]
              simp only [List.forIn_cons, Sem.run_bind, hss, p1, p2, Result.andThen_ok, Sem.run_pure]
              exact ih (s + 1) (by rw [show s + 1 + m = s + (m + 1) by omega, hmul]; exact hle)
          have := hF n 0 (by rw [Nat.zero_add, hX]; exact Nat.le_refl _)
          simp at this ⊢
          rw [this]
          rfl
        · cases h
      · cases h
    · cases h

theorem keyOk_run {kt : TypeId} {ag : Bool} {ks : List Nat} {k k' : Value} (hk : keyO P kt = some (ag, ks)) (h : keyOk ag ks k = true) (hx : VR ρ k k') (em : Bool) (w : World) : (Instr.checkKey em 10000 kt k').run P w = .ok () w := by
  obtain ⟨hag, hl⟩ := keyO_some hk
  cases ag with
  | true =>
    simp only [keyOk, cond_true] at h
    split at h
    · rename_i p
      cases hx with
      | agg l l' hl1 =>
        obtain ⟨D, hD, hagg⟩ := aggO_under hag
        have := check_leafs 50 10000 (by omega) kt ks hl em w l' (by rw [← hl1.length]; exact Nat.eq_of_beq_eq_true h)
        rwa [mkV_agg hD hagg] at this
    · cases h
  | false =>
    rcases leafs_scalar hl hag with ⟨h1, h2⟩ | ⟨h1, q, h2⟩ | ⟨h1, h2⟩
    · exact check_scalar h2 (.inl rfl) em 9999 k' w
    · exact check_scalar h2 (.inr (.inl ⟨q, rfl⟩)) em 9999 k' w
    · exact check_scalar h2 (.inr (.inr rfl)) em 9999 k' w

/-! ### Looking a key up -/
/-- What is found, in both machines. -/
inductive FR (ρ : Ren) : Option (Nat × Value) → Option (Nat × Value) → Prop
  | none : FR ρ none none
  | some (i : Nat) (v v' : Value) (h : VR ρ v v') : FR ρ (some (i, v)) (some (i, v'))

theorem keyEq_ok {ag : Bool} {ks : List Nat} {k k' : Value} {b : Bool} (h : keyEq ag ks k k' = some b) : keyOk ag ks k = true := by
  cases ag with
  | true =>
    simp only [keyEq, cond_true] at h
    split at h
    · have := (eqL_length h).1
      simp only [keyOk, cond_true]
      rw [this]
      exact Nat.beq_refl _
    · cases h
  | false => rfl

theorem findK_ok {ag : Bool} {ks : List Nat} {k : Value} : ∀ {es : List (Value × Value)} {i : Nat} {r : Option (Nat × Value)}, findK ag ks k es i = some r → keyOk ag ks k = true
  | [], i, r, h => (bifS h).1
  | (k', v) :: es, i, r, h => by
    simp only [findK] at h
    split at h
    · rename_i hk; exact keyEq_ok hk
    · rename_i hk; exact keyEq_ok hk
    · cases h

theorem findK_at {ag : Bool} {ks : List Nat} {k : Value} : ∀ {es : List (Value × Value)} {i j : Nat} {v : Value}, findK ag ks k es i = some (some (j, v)) → i ≤ j ∧ es[j - i]? = some (k, v) ∧ Instr.sameBits 10000 k k = true ∧ keyEq ag ks k k = some true
  | [], i, j, v, h => by have := (bifS h).2; cases this
  | (k', u) :: es, i, j, v, h => by
    simp only [findK] at h
    split at h
    · rename_i hk
      cases h
      obtain ⟨rfl, hb⟩ := keyEq_same hk
      exact ⟨Nat.le_refl _, by simp, hb, hk⟩
    · obtain ⟨h1, h2, h3⟩ := findK_at h
      refine ⟨by omega, ?_, h3⟩
      have : j - i = (j - (i + 1)) + 1 := by omega
      rw [this]
      simpa using h2
    · cases h

theorem sameNow_rel {d : TypeDesc} {ag : Bool} {ks : List Nat} {x y : Value} {b c : Bool} (h : keyEq ag ks x y = some b) (hn : Instr.sameNow d x y = some c) : c = b := by
  cases ag with
  | true =>
    simp only [keyEq, cond_true] at h
    split at h
    · cases d <;> simp [Instr.sameNow] at hn
    · cases h
  | false =>
    simp only [keyEq, cond_false] at h
    split at h
    · unfold eqP at h
      split at h
      · cases h
        cases d <;> simp [Instr.sameNow] at hn <;> simp_all
      · obtain ⟨hk, hc⟩ := bifS h
        obtain rfl := sameKind_iff hk
        cases hc
        rw [eqI_eq]
        cases d <;> simp [Instr.sameNow] at hn <;> simp_all
      · rename_i p q
        cases h
        rw [eqBytes_eq]
        have : (p.data.toList == q.data.toList) = (p == q) := by
          rw [Bool.eq_iff_iff, beq_iff_eq, MapKept.bytes_beq]
          constructor
          · intro h; apply ByteArray.ext; exact Array.ext' h
          · intro h; rw [h]
        cases d <;> simp [Instr.sameNow] at hn <;> simp_all
      · cases h
    · cases h

theorem findNow_rel {d : TypeDesc} {kt : TypeId} {ag : Bool} {ks : List Nat} {k k' : Value} (hk : keyO P kt = some (ag, ks)) (hx : VR ρ k k') : ∀ {es : List (Value × Value)} {es' : List MapEntry} {i j : Nat} {r r' : Option (Nat × Value)},
    VRE ρ j es es' → findK ag ks k es i = some r → Instr.findNow d k' es' i = some r' → FR ρ r r'
  | _, _, i, j, r, r', .nil _, h, hn => by
    cases (bifS h).2
    cases hn
    exact .none
  | _, _, i, j, r, r', .cons _ q q' v v' l l' hq hv hl, h, hn => by
    simp only [findK] at h
    cases hke : keyEq ag ks k q with
    | none => rw [hke] at h; cases h
    | some b =>
      obtain ⟨e1, e2, _⟩ := keyEq_run (P := P) hk hke hx hq
      simp only [Instr.findNow, e1, e2] at hn
      rw [e1] at hx
      cases hs : Instr.sameNow d k q with
      | none => rw [hs] at hn; cases hn
      | some c =>
        obtain rfl := sameNow_rel hke hs
        rw [hke] at h
        rw [hs] at hn
        cases c with
        | true => cases h; cases hn; exact .some _ _ _ hv
        | false => exact findNow_rel hk hx hl h hn

theorem findAsking_rel {kt : TypeId} {ag : Bool} {ks : List Nat} {k k' : Value} (hk : keyO P kt = some (ag, ks)) (hx : VR ρ k k') (w : World) : ∀ {es : List (Value × Value)} {es' : List MapEntry} {i j : Nat} {r : Option (Nat × Value)},
    VRE ρ j es es' → findK ag ks k es i = some r → ∃ r', (Instr.findAsking kt k' es' i).run P w = .ok r' w ∧ FR ρ r r'
  | _, _, i, j, r, .nil _, h => by
    cases (bifS h).2
    exact ⟨none, by simp [Instr.findAsking], .none⟩
  | _, _, i, j, r, .cons _ q q' v v' l l' hq hv hl, h => by
    simp only [findK] at h
    cases hke : keyEq ag ks k q with
    | none => rw [hke] at h; cases h
    | some b =>
      obtain ⟨e1, e2, e3⟩ := keyEq_run (P := P) hk hke hx hq
      rw [hke] at h
      cases b with
      | true =>
        cases h
        exact ⟨some (i, v'), by simp [Instr.findAsking, e1, e2, e3], .some _ _ _ hv⟩
      | false =>
        obtain ⟨r', h1, h2⟩ := findAsking_rel hk hx w hl h
        rw [e1] at h1
        exact ⟨r', by simp [Instr.findAsking, e1, e2, e3, h1], h2⟩

theorem findKey_rel {kt : TypeId} {ag : Bool} {ks : List Nat} {k k' : Value} (hk : keyO P kt = some (ag, ks)) (hx : VR ρ k k') (w : World) {es : List (Value × Value)} {es' : List MapEntry} {j : Nat} {r : Option (Nat × Value)}
    (hE : VRE ρ j es es') (h : findK ag ks k es 0 = some r) : ∃ r', (Instr.findKey kt k' es').run P w = .ok r' w ∧ FR ρ r r' := by
  obtain ⟨D, hD, _⟩ := aggO_under (keyO_some hk).1
  cases hn : Instr.findNow D k' es' 0 with
  | some r' => exact ⟨r', by simp [Instr.findKey, run_underlying hD, hn], findNow_rel hk hx hE h hn⟩
  | none =>
    obtain ⟨r', h1, h2⟩ := findAsking_rel hk hx w hE h
    exact ⟨r', by simp [Instr.findKey, run_underlying hD, hn, h1], h2⟩

theorem VRE.length : ∀ {i : Nat} {l : List (Value × Value)} {l' : List MapEntry}, VRE ρ i l l' → l'.length = l.length
  | _, _, _, .nil _ => rfl
  | _, _, _, .cons _ _ _ _ _ _ _ _ _ hl => by simp [VRE.length hl]
theorem VRE.get : ∀ {i : Nat} {l : List (Value × Value)} {l' : List MapEntry}, VRE ρ i l l' → ∀ (j : Nat) (k v : Value), l[j]? = some (k, v) → ∃ k' v', l'[j]? = some ⟨k', v', i + j⟩ ∧ VR ρ k k' ∧ VR ρ v v'
  | _, _, _, .nil _, j, k, v, h => by simp at h
  | i, _, _, .cons _ q q' u u' l l' hq hu hl, 0, k, v, h => by simp at h; obtain ⟨rfl, rfl⟩ := h; exact ⟨q', u', by simp, hq, hu⟩
  | i, _, _, .cons _ q q' u u' l l' hq hu hl, j + 1, k, v, h => by
    obtain ⟨k', v', h1, h2, h3⟩ := VRE.get hl j k v (by simpa using h)
    exact ⟨k', v', by simp only [List.getElem?_cons_succ, h1]; congr 2; omega, h2, h3⟩
theorem VRE.set : ∀ {i : Nat} {l : List (Value × Value)} {l' : List MapEntry}, VRE ρ i l l' → ∀ (j : Nat) (v v' : Value), VR ρ v v' → VRE ρ i (setK l j v) (l'.modify j fun e => { e with val := v' })
  | _, _, _, .nil _, j, v, v', _ => by simpa [setK] using VRE.nil _
  | i, _, _, .cons _ q q' u u' l l' hq hu hl, 0, v, v', hv => by simpa [setK, List.modify] using VRE.cons i q q' v v' l l' hq hv hl
  | i, _, _, .cons _ q q' u u' l l' hq hu hl, j + 1, v, v', hv => by simpa [setK, List.modify] using VRE.cons i q q' u u' _ _ hq hu (VRE.set hl j v v' hv)
theorem VRE.snoc : ∀ {i : Nat} {l : List (Value × Value)} {l' : List MapEntry}, VRE ρ i l l' → ∀ (k k' v v' : Value), VR ρ k k' → VR ρ v v' → VRE ρ i (l ++ [(k, v)]) (l' ++ [⟨k', v', i + l.length⟩])
  | i, _, _, .nil _, k, k', v, v', hk, hv => by simpa using VRE.cons i k k' v v' [] [] hk hv (.nil _)
  | i, _, _, .cons _ q q' u u' l l' hq hu hl, k, k', v, v', hk, hv => by
    have := VRE.snoc hl k k' v v' hk hv
    have e : i + 1 + l.length = i + (l.length + 1) := by omega
    rw [e] at this
    simpa using VRE.cons i q q' u u' _ _ hq hu this

end Go.Rx
