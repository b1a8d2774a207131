/- Regions whose order is open: the run in the text's order, and what it says of slots. -/
import Derived.Test.YtabhplelhjcdiaaRxDraw1
/- Regions whose order is open: the run in the text's order, and what it says of slots. -/
set_option linter.unusedVariables false
set_option linter.unusedSimpArgs false
namespace Go.Rx

/-! ### The run in the text's order -/
structure Run (ev : Ev) (gs : List GI) (Es : Nat → Env) (Hs : Nat → Heap) (vs : Nat → Value) : Prop where
  step : ∀ j g, gs[j]? = some g →
    (onG g.g (Es j) = true ∧ runI g.ins ev (Es j) (Hs j) = some (vs j, Hs (j + 1)) ∧ Es (j + 1) = putD (Es j) g.dst (vs j)) ∨
    (onG g.g (Es j) = false ∧ Hs (j + 1) = Hs j ∧ vs j = undef ∧ Es (j + 1) = putD (Es j) g.dst (vs j))

def shf {α : Type} (x : α) (f : Nat → α) : Nat → α
  | 0 => x
  | k + 1 => f k

theorem runT_nil (ev : Ev) (e : Env) (h : Heap) (acc : List Heap) : runT ev [] e h acc = some (e, h, acc) := rfl
theorem runT_cons (ev : Ev) (g : GI) (l : List GI) (e : Env) (h : Heap) (acc : List Heap) : runT ev (g :: l) e h acc = bif onG g.g e then runT1 (runT ev l) g.dst e acc (runI g.ins ev e h) else runT ev l (putD e g.dst undef) h (acc ++ [h]) := rfl
theorem runT1_some {k : Env → Heap → List Heap → RT} {d : Option Nat} {e : Env} {acc : List Heap} {x : R} {r : Env × Heap × List Heap} (h : runT1 k d e acc x = some r) : ∃ v h1, x = some (v, h1) ∧ k (putD e d v) h1 (acc ++ [h1]) = some r := by
  cases x with
  | none => cases h
  | some p =>
    refine ⟨p.1, p.2, rfl, ?_⟩
    have : forceV p.1 (fun v => k (putD e d v) p.2 (acc ++ [p.2])) = some r := h
    rwa [forceV_eq] at this

theorem run_cons {ev : Ev} {g : GI} {l : List GI} {e : Env} {h : Heap} {v : Value} {Es : Nat → Env} {Hs : Nat → Heap} {vs : Nat → Value} (hr : Run ev l Es Hs vs)
    (h0 : (onG g.g e = true ∧ runI g.ins ev e h = some (v, Hs 0) ∧ Es 0 = putD e g.dst v) ∨ (onG g.g e = false ∧ Hs 0 = h ∧ v = undef ∧ Es 0 = putD e g.dst v)) : Run ev (g :: l) (shf e Es) (shf h Hs) (shf v vs) := by
  refine ⟨fun j g' hg => ?_⟩
  cases j with
  | zero =>
    simp only [List.getElem?_cons_zero, Option.some.injEq] at hg
    subst hg
    exact h0
  | succ j =>
    simp only [List.getElem?_cons_succ] at hg
    exact hr.step j g' hg

theorem runT_run {ev : Ev} : ∀ (gs : List GI) (e : Env) (h : Heap) (acc : List Heap) (e' : Env) (h' : Heap) (hs : List Heap), runT ev gs e h acc = some (e', h', hs) →
    ∃ Es Hs vs, Es 0 = e ∧ Hs 0 = h ∧ Es gs.length = e' ∧ Hs gs.length = h' ∧ hs = acc ++ (List.range gs.length).map (fun i => Hs (i + 1)) ∧ Run ev gs Es Hs vs
  | [], e, h, acc, e', h', hs, hr => by
    rw [runT_nil] at hr
    cases hr
    exact ⟨fun _ => e, fun _ => h, fun _ => undef, rfl, rfl, rfl, rfl, by simp, ⟨fun j g hg => by simp at hg⟩⟩
  | g :: l, e, h, acc, e', h', hs, hr => by
    rw [runT_cons] at hr
    have fin : ∀ (v : Value) (h1 : Heap), runT ev l (putD e g.dst v) h1 (acc ++ [h1]) = some (e', h', hs) → ((onG g.g e = true ∧ runI g.ins ev e h = some (v, h1)) ∨ (onG g.g e = false ∧ h1 = h ∧ v = undef)) →
        ∃ Es Hs vs, Es 0 = e ∧ Hs 0 = h ∧ Es (g :: l).length = e' ∧ Hs (g :: l).length = h' ∧ hs = acc ++ (List.range (g :: l).length).map (fun i => Hs (i + 1)) ∧ Run ev (g :: l) Es Hs vs := by
      intro v h1 hk hc
      obtain ⟨Es, Hs, vs, a1, a2, a3, a4, a5, a6⟩ := runT_run l _ _ _ _ _ _ hk
      refine ⟨shf e Es, shf h Hs, shf v vs, rfl, rfl, a3, a4, ?_, run_cons a6 ?_⟩
      · rw [a5, List.append_assoc]
        congr 1
        rw [List.length_cons, List.range_succ_eq_map]
        simp only [List.map_cons, List.map_map, List.singleton_append]
        congr 1
        exact a2.symm
      · rcases hc with ⟨c1, c2⟩ | ⟨c1, c2, c3⟩
        · exact .inl ⟨c1, by rw [a2]; exact c2, a1⟩
        · exact .inr ⟨c1, by rw [a2]; exact c2, c3, a1⟩
    cases hon : onG g.g e with
    | true =>
      rw [hon] at hr
      obtain ⟨v, h1, hx, hk⟩ := runT1_some hr
      exact fin v h1 hk (.inl ⟨hon, hx⟩)
    | false =>
      rw [hon] at hr
      exact fin undef h hr (.inr ⟨hon, rfl, rfl⟩)

/-! ### Values that are surely one -/
theorem beq_addr {a b : Addr} (h : (Nat.beq a.block b.block && Nat.beq a.off b.off && a.spot == b.spot) = true) : a = b := by
  simp only [Bool.and_eq_true, Nat.beq_eq, beq_iff_eq] at h
  obtain ⟨⟨h1, h2⟩, h3⟩ := h
  cases a
  cases b
  simp_all

theorem sameV_eq {x y : Value} (h : sameV x y = true) : x = y := by
  unfold sameV at h
  split at h
  · simp only [Bool.and_eq_true] at h
    obtain rfl := sameKind_iff h.1
    rw [eqI_eq] at h
    rw [beq_iff_eq.1 h.2]
  · rw [beq_iff_eq.1 h]
  · rename_i a b
    rw [eqBytes_eq] at h
    have : a = b := by
      apply ByteArray.ext
      apply Array.ext'
      exact beq_iff_eq.1 h
    rw [this]
  · rfl
  · rename_i a b
    rw [beq_addr h]
  · simp only [Bool.and_eq_true, Nat.beq_eq] at h
    rw [h.1, h.2]
  · rename_i a n c b n' c'
    simp only [Bool.and_eq_true, Nat.beq_eq] at h
    obtain ⟨⟨h1, h2⟩, h3⟩ := h
    have : a = b := beq_addr (by simpa [Nat.beq_eq] using h1)
    rw [this, h2, h3]
  · rfl
  · rw [Nat.eq_of_beq_eq_true h]
  · cases h

theorem sameL_eq : ∀ {a b : List Value}, sameL a b = true → a = b
  | [], [], _ => rfl
  | [], _ :: _, h => by cases h
  | _ :: _, [], h => by cases h
  | x :: a, y :: b, h => by
    have h' : (sameV x y && sameL a b) = true := h
    simp only [Bool.and_eq_true] at h'
    rw [sameV_eq h'.1, sameL_eq h'.2]

theorem sameA_eq {x y : Value} (h : sameA x y = true) : x = y := by
  unfold sameA at h
  split at h
  · rw [Array.ext' (sameL_eq h)]
  · exact sameV_eq h

/-! ### Heaps' numbers -/
theorem monoH_cons {h h' : Heap} {r : List Heap} (hm : monoH (h :: h' :: r) = true) : h.next ≤ h'.next ∧ monoH (h' :: r) = true := by
  have : (Nat.ble h.next h'.next && monoH (h' :: r)) = true := hm
  simp only [Bool.and_eq_true, Nat.ble_eq] at this
  exact this
theorem monoH_get : ∀ {l : List Heap}, monoH l = true → ∀ i (h h' : Heap), l[i]? = some h → l[i + 1]? = some h' → h.next ≤ h'.next
  | [], _, i, h, h', h1, _ => by simp at h1
  | [_], _, i, h, h', _, h2 => by simp at h2
  | x :: y :: r, hm, 0, h, h', h1, h2 => by
    simp at h1 h2
    subst h1; subst h2
    exact (monoH_cons hm).1
  | x :: y :: r, hm, i + 1, h, h', h1, h2 => monoH_get (monoH_cons hm).2 i h h' (by simpa using h1) (by simpa using h2)

theorem hs_get {Hs : Nat → Heap} {n m : Nat} (h : m ≤ n) : ([Hs 0] ++ (List.range n).map (fun i => Hs (i + 1)))[m]? = some (Hs m) := by
  cases m with
  | zero => rfl
  | succ m =>
    have hlt : m < n := h
    simp [List.getElem?_range hlt]

theorem mono_of {Hs : Nat → Heap} {n : Nat} (h : monoH ([Hs 0] ++ (List.range n).map (fun i => Hs (i + 1))) = true) : Mono n Hs := by
  intro i j hij hj
  induction j with
  | zero => have : i = 0 := by omega
            subst this; exact Nat.le_refl _
  | succ j ih =>
    by_cases e : i = j + 1
    · subst e; exact Nat.le_refl _
    · exact Nat.le_trans (ih (by omega) (by omega)) (monoH_get h j _ _ (hs_get (by omega)) (hs_get hj))

theorem Ins.sort_le (ins : Ins) : ins.sort ≤ 3 := by cases ins <;> simp [Ins.sort]

/-! ### Slots, in the text's order -/
theorem putD_g (E : Env) (d : Option Nat) (v : Value) (t : Nat) : (putD E d v).g t = if d = some t then v else E.g t := by
  cases d with
  | none => simp [putD]
  | some d =>
    show (E.s d v).g t = _
    rw [Env.g_s]
    by_cases h : d = t
    · simp [h]
    · simp [h]

section
variable {ev : Ev} {gs : List GI} {Es : Nat → Env} {Hs : Nat → Heap} {vs : Nat → Value}

def gdst (gs : List GI) (i : Nat) : Option Nat := match gs[i]? with
  | some g => g.dst
  | none => none

theorem Run.put (h : Run ev gs Es Hs vs) {j : Nat} (hj : j < gs.length) : Es (j + 1) = putD (Es j) (gdst gs j) (vs j) := by
  have hg := List.getElem?_eq_getElem hj
  have hd : gdst gs j = gs[j].dst := by simp [gdst, hg]
  rw [hd]
  rcases h.step j _ hg with ⟨_, _, h3⟩ | ⟨_, _, _, h3⟩
  · exact h3
  · exact h3

theorem Run.other (h : Run ev gs Es Hs vs) {t : Nat} : ∀ {j : Nat}, j ≤ gs.length → (∀ i, i < j → gdst gs i ≠ some t) → (Es j).g t = (Es 0).g t
  | 0, _, _ => rfl
  | j + 1, hj, hn => by
    rw [h.put hj, putD_g, if_neg (hn j (by omega))]
    exact h.other (by omega) fun i hi => hn i (by omega)

theorem Run.own (h : Run ev gs Es Hs vs) (hd : ∀ i j d, i < j → j < gs.length → gdst gs i = some d → gdst gs j ≠ some d) {i d : Nat} (hi : gdst gs i = some d) : ∀ {j : Nat}, i < j → j ≤ gs.length → (Es j).g d = vs i
  | 0, h1, _ => by omega
  | j + 1, h1, h2 => by
    rw [h.put h2, putD_g]
    by_cases e : i = j
    · subst e; rw [if_pos hi]
    · rw [if_neg (hd i j d (by omega) h2 hi)]
      exact h.own hd hi (by omega) (by omega)
end

/-! ### Cut down to some slots -/
noncomputable def cutEnv (U : List Nat) (E : Env) : Env := U.foldr (fun t acc => acc.s t (E.g t)) .nil
theorem cutEnv_g : ∀ (U : List Nat) (E : Env) (t : Nat), (cutEnv U E).g t = if t ∈ U then E.g t else undef
  | [], E, t => by rw [if_neg (by simp)]; rfl
  | u :: U, E, t => by
    show ((cutEnv U E).s u (E.g u)).g t = _
    rw [Env.g_s, cutEnv_g U E t]
    by_cases h : u = t
    · subst h; simp
    · rw [if_neg h]
      by_cases h2 : t ∈ U
      · rw [if_pos h2, if_pos (by simp [h2])]
      · rw [if_neg h2, if_neg (by simp [h2]; exact fun e => h e.symm)]

def cutAct (U : List Nat) (a : Act) : Act := { a with tmps := (Array.range a.tmps.size).map fun t => if t ∈ U then a.tmps.getD t undef else undef }
theorem cutAct_get (U : List Nat) (a : Act) (t : Nat) : (cutAct U a).tmps[t]? = if t < a.tmps.size then some (if t ∈ U then a.tmps.getD t undef else undef) else none := by
  simp only [cutAct, Array.getElem?_map, Array.getElem?_range]
  by_cases h : t < a.tmps.size
  · simp [h]
  · simp [h]
theorem cutAct_getD (U : List Nat) (a : Act) (t : Nat) : (cutAct U a).tmps.getD t undef = if t ∈ U then a.tmps.getD t undef else undef := by
  rw [Array.getD_eq_getD_getElem?, cutAct_get]
  by_cases h : t < a.tmps.size
  · rw [if_pos h]; rfl
  · rw [if_neg h]
    by_cases h2 : t ∈ U
    · rw [if_pos h2, Array.getD_eq_getD_getElem?, Array.getElem?_eq_none (by omega)]
    · rw [if_neg h2]; rfl
theorem cutAct_same (U : List Nat) (a : Act) {t : Nat} (h : t ∈ U) : (cutAct U a).tmps[t]? = a.tmps[t]? := by
  rw [cutAct_get, if_pos h]
  by_cases h2 : t < a.tmps.size
  · rw [if_pos h2, Array.getD_eq_getD_getElem?, Array.getElem?_eq_getElem h2]; rfl
  · rw [if_neg h2, Array.getElem?_eq_none (by omega)]
theorem cutAct_size (U : List Nat) (a : Act) : (cutAct U a).tmps.size = a.tmps.size := by simp [cutAct]

end Go.Rx
