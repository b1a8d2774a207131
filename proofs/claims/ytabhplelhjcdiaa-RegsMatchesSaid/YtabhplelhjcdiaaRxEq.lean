/- '==' on structs and arrays of plain data: cell by cell. -/
import Derived.Test.YtabhplelhjcdiaaRxOps3
import Derived.ChangeKeysEq
/- '==' on structs and arrays of plain data: cell by cell. -/
set_option linter.unusedVariables false
set_option linter.unusedSimpArgs false
namespace Go.Rx

variable {P : Program} {ρ : Ren} {w : World}

theorem eqL_length : ∀ {ks : List Nat} {X Y : List Value} {c : Bool}, eqL ks X Y = some c → X.length = ks.length ∧ Y.length = ks.length
  | [], [], [], _, _ => ⟨rfl, rfl⟩
  | [], _ :: _, [], _, h => by simp [eqL] at h
  | [], [], _ :: _, _, h => by simp [eqL] at h
  | [], _ :: _, _ :: _, _, h => by simp [eqL] at h
  | _ :: _, [], [], _, h => by simp [eqL] at h
  | _ :: _, [], _ :: _, _, h => by simp [eqL] at h
  | _ :: _, _ :: _, [], _, h => by simp [eqL] at h
  | k :: ks, x :: X, y :: Y, c, h => by
    simp only [eqL] at h
    split at h
    · split at h
      · rename_i c' hc
        have := eqL_length hc
        simp [this.1, this.2]
      · cases h
    · cases h

theorem eqL_append : ∀ {a b : List Nat} {X Y : List Value} {c : Bool}, eqL (a ++ b) X Y = some c →
    ∃ c1 c2, eqL a (X.take a.length) (Y.take a.length) = some c1 ∧ eqL b (X.drop a.length) (Y.drop a.length) = some c2 ∧ c = (c1 && c2)
  | [], b, X, Y, c, h => ⟨true, c, by simp [eqL], by simpa using h, by simp⟩
  | k :: a, b, [], _, c, h => by cases ‹List Value› <;> simp [eqL] at h
  | k :: a, b, _ :: _, [], c, h => by simp [eqL] at h
  | k :: a, b, x :: X, y :: Y, c, h => by
    simp only [List.cons_append, eqL] at h
    cases hp : eqP k x y with
    | none => rw [hp] at h; cases h
    | some p =>
      rw [hp] at h
      cases hq : eqL (a ++ b) X Y with
      | none => simp only [hq] at h; cases h
      | some q =>
        simp only [hq, Option.some.injEq] at h
        obtain ⟨c1, c2, h1, h2, rfl⟩ := eqL_append hq
        refine ⟨p && c1, c2, by simp [eqL, hp, h1], by simpa using h2, by rw [← h, Bool.and_assoc]⟩

/-- A type's value out of its cells. -/
def mkV (P : Program) (t : TypeId) (X : List Value) : Value := match P.underlying t with
  | some (.struct _) => .agg ⟨X⟩
  | some (.array _ _) => .agg ⟨X⟩
  | _ => X.headD undef

theorem repN_length (n : Nat) (l : List Nat) : (repN n l).length = n * l.length := by
  induction n with
  | zero => simp [repN]
  | succ n ih => simp [repN, ih, Nat.add_mul]; omega

theorem leafF_length {lf : TypeId → Option (List Nat)} : ∀ {fs : List Field} {off : Nat} {l : List Nat}, leafF lf P fs off = some l → ∀ f ∈ fs, (f.name == "_") = false ∧ ∃ k, lf f.type = some k
  | [], _, _, _, f, hf => by cases hf
  | g :: fs, off, l, h, f, hf => by
    simp only [leafF] at h
    split at h
    · rename_i hn
      split at h
      · rename_i k hk
        split at h
        · split at h
          · rename_i k' hk'
            rcases List.mem_cons.1 hf with rfl | hm
            · simp only [bne, Bool.and_eq_true, Bool.not_eq_true'] at hn
              exact ⟨hn.1, k, hk⟩
            · exact leafF_length hk' f hm
          · cases h
        · cases h
      · cases h
    · cases h

theorem leafs_length : ∀ {d : Nat} {t : TypeId} {l : List Nat}, leafs P d t = some l → l.length = P.cellsOf t
  | 0, _, _, h => by simp [leafs] at h
  | d + 1, t, l, h => by
    simp only [leafs] at h
    split at h
    · split at h
      · rename_i hc; cases h; simp at hc; simp [hc]
      · cases h
    · split at h
      · rename_i hc; cases h; simp at hc; simp [hc]
      · cases h
    · split at h
      · rename_i hc; cases h; simp at hc; simp [hc]
      · cases h
    · split at h
      · cases h
      · split at h
        · split at h
          · rename_i hc; cases h; simpa using hc
          · cases h
        · cases h
    · split at h
      · split at h
        · rename_i hc
          cases h
          simp at hc
          rw [repN_length, hc.1, hc.2]
        · cases h
      · cases h
    · cases h

theorem leafs_info {d : Nat} {t : TypeId} {l : List Nat} (h : leafs P d t = some l) : ∃ i, P.info? t = some i := by
  cases d with
  | zero => simp [leafs] at h
  | succ d =>
    simp only [leafs] at h
    cases hi : P.info? t with
    | some i => exact ⟨i, rfl⟩
    | none =>
      have : P.underlying t = none := by simp [Program.underlying, hi]
      simp [this] at h

theorem run_part_mk {d : Nat} {e : TypeId} {l : List Nat} (h : leafs P d e = some l) (xs : Array Value) (off : Nat) (hl : off + l.length ≤ xs.size) (w : World) :
    (part e xs off).run P w = .ok (mkV P e ((xs.toList.drop off).take l.length)) w := by
  have hlen := leafs_length h
  obtain ⟨i, hi⟩ := leafs_info h
  have hsz : (sizeOf e).run P w = .ok l.length w := by
    have : i.size = l.length := by rw [hlen]; simp [Program.cellsOf, hi]
    simp [sizeOf, typeInfo, hi, this]
  have hext : xs.extract off (off + l.length) = (⟨(xs.toList.drop off).take l.length⟩ : Array Value) := by
    apply Array.ext'
    rw [Array.toList_extract]
    simp [List.extract]
  cases d with
  | zero => simp [leafs] at h
  | succ d =>
    simp only [leafs] at h
    have scalar : l.length = 1 → (∀ fs, P.underlying e ≠ some (.struct fs)) → (∀ n t, P.underlying e ≠ some (.array n t)) → ∀ D, P.underlying e = some D → (part e xs off).run P w = .ok (mkV P e ((xs.toList.drop off).take l.length)) w := by
      intro h1 hns hna D hD
      have hlt : off < xs.size := by omega
      have hx : xs[off]? = some xs[off] := by simp [hlt]
      have hm : mkV P e ((xs.toList.drop off).take l.length) = xs[off] := by
        unfold mkV
        rw [h1]
        have hd : xs.toList.drop off = xs[off] :: xs.toList.drop (off + 1) := by
          rw [List.drop_eq_getElem_cons (by simpa using hlt)]; simp
        rw [hd]
        split
        · rename_i fs he; exact absurd he (hns fs)
        · rename_i n t he; exact absurd he (hna n t)
        · rfl
      rw [hm]
      have hag : (isAgg e).run P w = .ok false w := by
        cases D <;> simp [isAgg, run_underlying hD]
        · exact absurd hD (hna _ _)
        · exact absurd hD (hns _)
      simp [part, hag, hx]
    split at h
    · rename_i hu
      split at h
      · cases h; exact scalar rfl (by simp [hu]) (by simp [hu]) _ hu
      · cases h
    · rename_i hu
      split at h
      · cases h; exact scalar rfl (by simp [hu]) (by simp [hu]) _ hu
      · cases h
    · rename_i hu
      split at h
      · cases h; exact scalar rfl (by simp [hu]) (by simp [hu]) _ hu
      · cases h
    · rename_i fs hu
      have hag : (isAgg e).run P w = .ok true w := by simp [isAgg, run_underlying hu]
      have hm : mkV P e ((xs.toList.drop off).take l.length) = .agg ⟨(xs.toList.drop off).take l.length⟩ := by simp [mkV, hu]
      rw [hm]
      simp [part, hag, hsz, hext]
    · rename_i n e' hu
      have hag : (isAgg e).run P w = .ok true w := by simp [isAgg, run_underlying hu]
      have hm : mkV P e ((xs.toList.drop off).take l.length) = .agg ⟨(xs.toList.drop off).take l.length⟩ := by simp [mkV, hu]
      rw [hm]
      simp [part, hag, hsz, hext]
    · cases h

/-- What '==' answers, of values of a type whose cells are plain. -/
def EqOk (P : Program) (D : Nat) (t : TypeId) (l : List Nat) : Prop := ∀ (w : World) (X Y : List Value) (c : Bool), eqL l X Y = some c → (Op.equalIn D t (mkV P t X) (mkV P t Y)).run P w = .ok c w

theorem eqP_run {k : Nat} {x y : Value} {c : Bool} (h : eqP k x y = some c) {D : Nat} {t : TypeId} (hu : (k = 0 ∧ P.underlying t = some .bool) ∨ (k = 1 ∧ ∃ q, P.underlying t = some (.int q)) ∨ (k = 2 ∧ P.underlying t = some .string)) (w : World) :
    (Op.equalIn (D + 1) t x y).run P w = .ok c w := by
  unfold eqP at h
  split at h
  · cases h
    rcases hu with ⟨_, hu⟩ | ⟨h0, _⟩ | ⟨h0, _⟩
    · exact run_equalIn_bool' w D t _ _ hu
    · cases h0
    · cases h0
  · rename_i k1 a k2 b
    rcases hu with ⟨h0, _⟩ | ⟨_, q, hu⟩ | ⟨h0, _⟩
    · cases h0
    · obtain ⟨hk, hc⟩ := bifS h
      obtain rfl := sameKind_iff hk
      cases hc
      rw [eqI_eq]
      exact run_equalIn_int w D t _ _ _ _ hu
    · cases h0
  · cases h
    rcases hu with ⟨h0, _⟩ | ⟨h0, _⟩ | ⟨_, hu⟩
    · cases h0
    · cases h0
    · rw [eqBytes_eq, ← toList_bytes, ← toList_bytes]
      exact run_equalIn_string w D t _ _ hu
  · cases h

theorem eqF_run {d D : Nat} (IH : ∀ (t : TypeId) (l : List Nat), leafs P d t = some l → EqOk P D t l) : ∀ (fs : List Field) (off : Nat) (l : List Nat), leafF (leafs P d) P fs off = some l → ∀ (xs ys : Array Value) (c : Bool) (w : World),
    off + l.length ≤ xs.size → off + l.length ≤ ys.size → eqL l ((xs.toList.drop off).take l.length) ((ys.toList.drop off).take l.length) = some c → (Op.eqFields D xs ys fs).run P w = .ok c w
  | [], off, l, h, xs, ys, c, w, _, _, he => by
    simp only [leafF, Option.some.injEq] at h
    subst h
    simp [eqL] at he
    subst he
    rfl
  | f :: fs, off, l, h, xs, ys, c, w, hx, hy, he => by
    simp only [leafF] at h
    split at h
    · rename_i hn
      simp only [bne, Bool.and_eq_true, Bool.not_eq_true', beq_iff_eq] at hn
      obtain ⟨hname, rfl⟩ := hn
      split at h
      · rename_i l1 hl1
        split at h
        · split at h
          · rename_i l2 hl2
            cases h
            simp only [List.length_append] at hx hy
            obtain ⟨c1, c2, e1, e2, rfl⟩ := eqL_append he
            simp only [List.length_append, List.take_take, Nat.min_eq_left (Nat.le_add_right _ _)] at e1
            have e2' : eqL l2 ((xs.toList.drop (f.offset + l1.length)).take l2.length) ((ys.toList.drop (f.offset + l1.length)).take l2.length) = some c2 := by
              simpa [List.drop_take, List.drop_drop, Nat.add_comm] using e2
            have p1 := run_part_mk hl1 xs f.offset (by omega) w
            have p2 := run_part_mk hl1 ys f.offset (by omega) w
            have p3 := IH f.type l1 hl1 w _ _ c1 e1
            have hrec := eqF_run IH fs _ l2 hl2 xs ys c2 w (by omega) (by omega) e2'
            have hnn : f.name ≠ "_" := by simpa using hname
            simp only [Op.eqFields, hnn, ne_eq, not_false_eq_true, if_true, Sem.run_bind, p1, p2, p3, Result.andThen_ok]
            cases c1
            · simp
            · simpa using hrec
          · cases h
        · cases h
      · cases h
    · cases h

theorem eqI_run {D : Nat} {e : TypeId} {l : List Nat} {d : Nat} (hl : leafs P d e = some l) (IH : EqOk P D e l) (xs ys : Array Value) : ∀ (m s : Nat) (c : Bool) (w : World), (s + m) * l.length ≤ xs.size → (s + m) * l.length ≤ ys.size →
    eqL (repN m l) ((xs.toList.drop (s * l.length)).take (m * l.length)) ((ys.toList.drop (s * l.length)).take (m * l.length)) = some c →
    (Op.eqItems D e (P.cellsOf e) xs ys (List.range' s m)).run P w = .ok c w
  | 0, s, c, w, _, _, he => by
    simp [repN, eqL] at he
    subst he
    rfl
  | m + 1, s, c, w, hx, hy, he => by
    have hlen := leafs_length hl
    have hmul : (s + (m + 1)) * l.length = s * l.length + l.length + m * l.length := by
      rw [show s + (m + 1) = s + 1 + m by omega, Nat.add_mul, Nat.add_mul]; omega
    have hmul2 : (m + 1) * l.length = l.length + m * l.length := by rw [Nat.add_mul]; omega
    have hmul3 : (s + 1) * l.length = s * l.length + l.length := by rw [Nat.add_mul]; omega
    rw [hmul] at hx hy
    simp only [repN] at he
    obtain ⟨c1, c2, e1, e2, rfl⟩ := eqL_append he
    rw [hmul2] at e1 e2
    simp only [List.take_take, Nat.min_eq_left (Nat.le_add_right _ _)] at e1
    have e2' : eqL (repN m l) ((xs.toList.drop ((s + 1) * l.length)).take (m * l.length)) ((ys.toList.drop ((s + 1) * l.length)).take (m * l.length)) = some c2 := by
      rw [hmul3]
      simpa [List.drop_take, List.drop_drop, Nat.add_comm] using e2
    have p1 := run_part_mk hl xs (s * l.length) (by omega) w
    have p2 := run_part_mk hl ys (s * l.length) (by omega) w
    have p3 := IH w _ _ c1 e1
    have hrec := eqI_run hl IH xs ys m (s + 1) c2 w (by rw [show s + 1 + m = s + (m + 1) by omega, hmul]; exact hx) (by rw [show s + 1 + m = s + (m + 1) by omega, hmul]; exact hy) e2'
    rw [List.range'_succ]
    simp only [Op.eqItems, ← hlen, Sem.run_bind, p1, p2, p3, Result.andThen_ok]
    rw [← hlen] at hrec
    cases c1
    · simp
    · simpa using hrec

theorem eq_leafs : ∀ (d D : Nat), d ≤ D → ∀ (t : TypeId) (l : List Nat), leafs P d t = some l → EqOk P D t l
  | 0, _, _, t, l, h => by simp [leafs] at h
  | d + 1, 0, hd, _, _, _ => by omega
  | d + 1, D + 1, hd, t, l, h => by
    intro w X Y c he
    have IH := eq_leafs d D (by omega)
    obtain ⟨hXl, hYl⟩ := eqL_length he
    have one : ∀ k, l = [k] → (∀ fs, P.underlying t ≠ some (.struct fs)) → (∀ n e, P.underlying t ≠ some (.array n e)) →
        ((k = 0 ∧ P.underlying t = some .bool) ∨ (k = 1 ∧ ∃ q, P.underlying t = some (.int q)) ∨ (k = 2 ∧ P.underlying t = some .string)) → (Op.equalIn (D + 1) t (mkV P t X) (mkV P t Y)).run P w = .ok c w := by
      intro k hk hns hna hu
      subst hk
      match X, Y, hXl, hYl, he with
      | [x], [y], _, _, he =>
        have hm : ∀ v, mkV P t [v] = v := fun v => by
          unfold mkV
          split
          · rename_i fs h1; exact absurd h1 (hns fs)
          · rename_i n e h1; exact absurd h1 (hna n e)
          · rfl
        rw [hm, hm]
        simp only [eqL] at he
        cases hp : eqP k x y with
        | none => rw [hp] at he; cases he
        | some b =>
          simp [hp] at he
          subst he
          exact eqP_run hp hu w
    simp only [leafs] at h
    split at h
    · rename_i hu
      split at h
      · cases h; exact one 0 rfl (by simp [hu]) (by simp [hu]) (.inl ⟨rfl, hu⟩)
      · cases h
    · rename_i q hu
      split at h
      · cases h; exact one 1 rfl (by simp [hu]) (by simp [hu]) (.inr (.inl ⟨rfl, _, hu⟩))
      · cases h
    · rename_i hu
      split at h
      · cases h; exact one 2 rfl (by simp [hu]) (by simp [hu]) (.inr (.inr ⟨rfl, hu⟩))
      · cases h
    · rename_i fs hu
      split at h
      · cases h
      · rename_i hst
        split at h
        · rename_i l' hl'
          split at h
          · cases h
            have hf : P.fieldsOf t = fs := by simp [Program.fieldsOf, hu]
            have hm : ∀ X, mkV P t X = .agg ⟨X⟩ := fun X => by simp [mkV, hu]
            rw [hm, hm, run_equalIn_struct w D t _ _ (by rw [hf]; exact hu) (by simpa using hst), hf]
            refine eqF_run IH fs.toList 0 l hl' _ _ c w (by simp [hXl]) (by simp [hYl]) ?_
            simp only [List.drop_zero]
            rw [← hXl, List.take_length, hXl, ← hYl, List.take_length]
            exact he
          · cases h
        · cases h
    · rename_i n e' hu
      split at h
      · rename_i l' hl'
        split at h
        · rename_i hc
          cases h
          have hm : ∀ X, mkV P t X = .agg ⟨X⟩ := fun X => by simp [mkV, hu]
          obtain ⟨i, hi⟩ := leafs_info hl'
          rw [repN_length] at hXl hYl
          rw [hm, hm, run_equalIn_array w D _ _ hu hi, List.range_eq_range']
          refine eqI_run hl' (IH _ _ hl') _ _ n 0 c w (by simp [hXl]) (by simp [hYl]) ?_
          simp only [Nat.zero_mul, List.drop_zero]
          rw [← hXl, List.take_length, hXl, ← hYl, List.take_length]
          exact he
        · cases h
      · cases h
    · cases h

/-- No interface lies in such a type. -/
theorem guard_leafs : ∀ (d D : Nat), d ≤ D → ∀ (t : TypeId) (l : List Nat), leafs P d t = some l → P.eqGuardType D t = false
  | 0, _, _, t, l, h => by simp [leafs] at h
  | d + 1, 0, hd, _, _, _ => by omega
  | d + 1, D + 1, hd, t, l, h => by
    have IH := guard_leafs d D (by omega)
    simp only [leafs] at h
    unfold Program.eqGuardType
    split at h
    · rename_i hu; simp [hu]
    · rename_i hu; simp [hu]
    · rename_i hu; simp [hu]
    · rename_i fs hu
      split at h
      · cases h
      · split at h
        · rename_i l' hl'
          simp only [hu]
          rw [Bool.eq_false_iff]
          intro hany
          rw [Array.any_eq_true] at hany
          obtain ⟨i, hi, hb⟩ := hany
          obtain ⟨_, k, hk⟩ := leafF_length hl' fs[i] (by simp)
          rw [IH _ _ hk] at hb
          simp at hb
        · cases h
    · rename_i n e' hu
      split at h
      · rename_i l' hl'
        simp only [hu]
        exact IH _ _ hl'
      · cases h
    · cases h

end Go.Rx
