/- Plain facts on the abstract machine's means: tries, lists of cells, numbers. -/
import Derived.Test.YtabhplelhjcdiaaRxBase
/- Plain facts on the abstract machine's means: tries, lists of cells, numbers. -/
namespace Go.Rx

/-! ### Paths -/
theorem pthF_inj : ∀ (n f g m : Nat), n ≤ f → m ≤ g → pthF f n = pthF g m → n = m := by
  intro n
  induction n using Nat.strongRecOn with
  | _ n ih =>
    intro f g m hf hg h
    cases n with
    | zero =>
      have h0 : pthF f 0 = .e := by cases f <;> rfl
      rw [h0] at h
      cases m with
      | zero => rfl
      | succ m =>
        cases g with
        | zero => omega
        | succ g =>
          simp only [pthF] at h
          have : Nat.beq (m + 1) 0 = false := rfl
          rw [this] at h
          simp only [cond_false] at h
          cases hb : Nat.beq ((m + 1) % 2) 1 <;> rw [hb] at h <;> simp at h
    | succ n =>
      cases f with
      | zero => omega
      | succ f =>
        cases m with
        | zero =>
          have h0 : pthF g 0 = .e := by cases g <;> rfl
          rw [h0] at h
          simp only [pthF] at h
          have : Nat.beq (n + 1) 0 = false := rfl
          rw [this] at h
          simp only [cond_false] at h
          cases hb : Nat.beq ((n + 1) % 2) 1 <;> rw [hb] at h <;> simp at h
        | succ m =>
          cases g with
          | zero => omega
          | succ g =>
            simp only [pthF] at h
            have h1 : Nat.beq (n + 1) 0 = false := rfl
            have h2 : Nat.beq (m + 1) 0 = false := rfl
            rw [h1, h2] at h
            simp only [cond_false] at h
            cases hb : Nat.beq ((n + 1) % 2) 1 <;> cases hc : Nat.beq ((m + 1) % 2) 1 <;> rw [hb, hc] at h <;> simp at h
            · have e1 : (n + 1) % 2 ≠ 1 := fun e => by rw [e] at hb; cases hb
              have e2 : (m + 1) % 2 ≠ 1 := fun e => by rw [e] at hc; cases hc
              have := ih ((n + 1) / 2 - 1) (by omega) f g ((m + 1) / 2 - 1) (by omega) (by omega) h
              omega
            · have e1 : (n + 1) % 2 = 1 := Nat.eq_of_beq_eq_true hb
              have e2 : (m + 1) % 2 = 1 := Nat.eq_of_beq_eq_true hc
              have := ih ((n + 1) / 2) (by omega) f g ((m + 1) / 2) (by omega) (by omega) h
              omega

theorem pth_inj {n m : Nat} (h : pth n = pth m) : n = m := pthF_inj n n m m (Nat.le_refl _) (Nat.le_refl _) h

section
variable {α : Type}
@[simp] theorem Tr.getP_nil (p : Pth) : Tr.getP (.nil : Tr α) p = none := rfl
@[simp] theorem Tr.getP_e (l r : Tr α) (v : Option α) : Tr.getP (.node l v r) .e = v := rfl
@[simp] theorem Tr.getP_o (l r : Tr α) (v : Option α) (p : Pth) : Tr.getP (.node l v r) (.o p) = r.getP p := rfl
@[simp] theorem Tr.getP_i (l r : Tr α) (v : Option α) (p : Pth) : Tr.getP (.node l v r) (.i p) = l.getP p := rfl
theorem Tr.putP_e_nil (x : Option α) : Tr.putP x .e .nil = .node .nil x .nil := rfl
theorem Tr.putP_e_node (x : Option α) (l r : Tr α) (v : Option α) : Tr.putP x .e (.node l v r) = .node l x r := rfl
theorem Tr.putP_o_nil (x : Option α) (p : Pth) : Tr.putP x (.o p) .nil = .node .nil none (Tr.putP x p .nil) := rfl
theorem Tr.putP_o_node (x : Option α) (p : Pth) (l r : Tr α) (v : Option α) : Tr.putP x (.o p) (.node l v r) = .node l v (Tr.putP x p r) := rfl
theorem Tr.putP_i_nil (x : Option α) (p : Pth) : Tr.putP x (.i p) .nil = .node (Tr.putP x p .nil) none .nil := rfl
theorem Tr.putP_i_node (x : Option α) (p : Pth) (l r : Tr α) (v : Option α) : Tr.putP x (.i p) (.node l v r) = .node (Tr.putP x p l) v r := rfl

theorem Tr.getP_putP_same (x : Option α) : ∀ (p : Pth) (t : Tr α), (Tr.putP x p t).getP p = x
  | .e, .nil => rfl
  | .e, .node _ _ _ => rfl
  | .o p, .nil => Tr.getP_putP_same x p .nil
  | .o p, .node _ _ r => Tr.getP_putP_same x p r
  | .i p, .nil => Tr.getP_putP_same x p .nil
  | .i p, .node l _ _ => Tr.getP_putP_same x p l

theorem Tr.getP_putP_ne (x : Option α) : ∀ (p q : Pth) (t : Tr α), p ≠ q → (Tr.putP x p t).getP q = t.getP q
  | .e, .e, _, h => absurd rfl h
  | .e, .o q, .nil, _ => rfl
  | .e, .o q, .node _ _ _, _ => rfl
  | .e, .i q, .nil, _ => rfl
  | .e, .i q, .node _ _ _, _ => rfl
  | .o p, .e, .nil, _ => rfl
  | .o p, .e, .node _ _ _, _ => rfl
  | .o p, .o q, .nil, h => Tr.getP_putP_ne x p q .nil (fun e => h (by rw [e]))
  | .o p, .o q, .node _ _ r, h => Tr.getP_putP_ne x p q r (fun e => h (by rw [e]))
  | .o p, .i q, .nil, _ => rfl
  | .o p, .i q, .node _ _ _, _ => rfl
  | .i p, .e, .nil, _ => rfl
  | .i p, .e, .node _ _ _, _ => rfl
  | .i p, .o q, .nil, _ => rfl
  | .i p, .o q, .node _ _ _, _ => rfl
  | .i p, .i q, .nil, h => Tr.getP_putP_ne x p q .nil (fun e => h (by rw [e]))
  | .i p, .i q, .node l _ _, h => Tr.getP_putP_ne x p q l (fun e => h (by rw [e]))

theorem Tr.get_put (t : Tr α) (i j : Nat) (x : Option α) : (t.put i x).get j = if i = j then x else t.get j := by
  unfold Tr.get Tr.put
  split
  · rename_i h; subst h; exact Tr.getP_putP_same x _ t
  · rename_i h; exact Tr.getP_putP_ne x _ _ t (fun e => h (pth_inj e))
theorem Tr.get_nil (j : Nat) : (Tr.nil : Tr α).get j = none := rfl
end

/-! ### Environment and heap -/
theorem Env.g_s (e : Env) (i j : Nat) (v : Value) : (e.s i v).g j = if i = j then v else e.g j := by
  unfold Env.g Env.s
  rw [Tr.get_put]
  split <;> rfl
theorem Env.g_s_same (e : Env) (i : Nat) (v : Value) : (e.s i v).g i = v := by rw [Env.g_s, if_pos rfl]
theorem Env.g_s_ne (e : Env) {i j : Nat} (v : Value) (h : i ≠ j) : (e.s i v).g j = e.g j := by rw [Env.g_s, if_neg h]
theorem Env.g_nil (j : Nat) : Env.g .nil j = undef := rfl

theorem Heap.at_set (h : Heap) (b c : Nat) (x : Option Blk) : (h.set b x).at c = if b = c then x else h.at c := Tr.get_put _ _ _ _
theorem Heap.at_new (h : Heap) (x : Blk) (c : Nat) : (h.new x).at c = if h.next = c then some x else h.at c := Tr.get_put _ _ _ _
@[simp] theorem Heap.next_set (h : Heap) (b : Nat) (x : Option Blk) : (h.set b x).next = h.next := rfl
@[simp] theorem Heap.next_new (h : Heap) (x : Blk) : (h.new x).next = h.next + 1 := rfl

/-! ### Forced numbers -/
@[simp] theorem forceN_eq {α : Type} (n : Nat) (f : Nat → α) : forceN n f = f n := by cases n <;> rfl
@[simp] theorem forceI_eq {α : Type} (n : Int) (f : Int → α) : forceI n f = f n := by cases n <;> simp [forceI]
@[simp] theorem forceV_eq {α : Type} (v : Value) (f : Value → α) : forceV v f = f v := by
  unfold forceV
  split <;> simp

/-! ### Lists of cells -/
theorem dropR_eq : ∀ (l : List Value) (n : Nat), dropR l n = l.drop n
  | [], n => by simp [dropR]
  | x :: xs, 0 => rfl
  | x :: xs, n + 1 => by
    have := dropR_eq xs n
    simpa [dropR] using this
theorem takeN_zero (l : List Value) : takeN 0 l = some [] := rfl
theorem takeN_nil (n : Nat) : takeN (n + 1) [] = none := rfl
theorem takeN_cons (n : Nat) (x : Value) (l : List Value) : takeN (n + 1) (x :: l) = optCons x (takeN n l) := rfl
@[simp] theorem optCons_some (x : Value) (l : List Value) : optCons x (some l) = some (x :: l) := rfl
@[simp] theorem optCons_none (x : Value) : optCons x none = none := rfl
theorem takeN_eq : ∀ (n : Nat) (l : List Value), takeN n l = if n ≤ l.length then some (l.take n) else none
  | 0, l => by simp [takeN_zero]
  | n + 1, [] => by simp [takeN_nil]
  | n + 1, x :: l => by
    rw [takeN_cons, takeN_eq n l]
    by_cases h : n ≤ l.length
    · rw [if_pos h, if_pos (by simpa using h)]; rfl
    · rw [if_neg h, if_neg (by simpa using h)]; rfl
theorem cut_eq (l : List Value) (off n : Nat) : cut l off n = if n ≤ l.length - off then some ((l.drop off).take n) else none := by
  unfold cut
  rw [dropR_eq, takeN_eq, List.length_drop]
theorem cut_some {l r : List Value} {off n : Nat} (h : cut l off n = some r) : (n = 0 ∨ off + n ≤ l.length) ∧ r = (l.drop off).take n ∧ r.length = n ∧ ∀ j, j < n → r[j]? = l[off + j]? := by
  rw [cut_eq] at h
  split at h
  · rename_i hle
    cases h
    refine ⟨by omega, rfl, by simp; omega, fun j hj => ?_⟩
    rw [List.getElem?_take, if_pos hj, List.getElem?_drop]
  · cases h
theorem cut_one {l : List Value} {off : Nat} : cut l off 1 = (l[off]?).map fun v => [v] := by
  rw [cut_eq]
  by_cases h : off < l.length
  · rw [if_pos (by omega), List.getElem?_eq_getElem h]
    simp only [Option.map_some]
    rw [List.drop_eq_getElem_cons h]; rfl
  · rw [if_neg (by omega), List.getElem?_eq_none (by omega)]; rfl

theorem setAt_nil_nil (i : Nat) : setAt [] i [] = some [] := rfl
theorem setAt_nil_cons (i : Nat) (v : Value) (vs : List Value) : setAt [] i (v :: vs) = none := rfl
theorem setAt_zero_nil (c : Value) (cs : List Value) : setAt (c :: cs) 0 [] = some (c :: cs) := rfl
theorem setAt_zero_cons (c : Value) (cs : List Value) (v : Value) (vs : List Value) : setAt (c :: cs) 0 (v :: vs) = optCons v (setAt cs 0 vs) := rfl
theorem setAt_succ (c : Value) (cs : List Value) (i : Nat) (vs : List Value) : setAt (c :: cs) (i + 1) vs = optCons c (setAt cs i vs) := rfl

theorem setAt_eq : ∀ (cs : List Value) (i : Nat) (vs : List Value), setAt cs i vs = if vs = [] then some cs else if i + vs.length ≤ cs.length then some (cs.take i ++ vs ++ cs.drop (i + vs.length)) else none
  | [], i, [] => by simp [setAt_nil_nil]
  | [], i, v :: vs => by simp [setAt_nil_cons]
  | c :: cs, 0, [] => by simp [setAt_zero_nil]
  | c :: cs, 0, v :: vs => by
    rw [setAt_zero_cons, setAt_eq cs 0 vs]
    by_cases hv : vs = []
    · subst hv; simp
    · rw [if_neg hv]
      by_cases h : 0 + vs.length ≤ cs.length
      · rw [if_pos h, if_neg (by simp), if_pos (by simp at h ⊢; omega)]; simp
      · rw [if_neg h, if_neg (by simp), if_neg (by simp at h ⊢; omega)]; rfl
  | c :: cs, i + 1, vs => by
    rw [setAt_succ, setAt_eq cs i vs]
    by_cases hv : vs = []
    · subst hv; simp
    · rw [if_neg hv, if_neg hv]
      by_cases h : i + vs.length ≤ cs.length
      · rw [if_pos h, if_pos (by simp; omega)]
        have : i + 1 + vs.length = (i + vs.length) + 1 := by omega
        simp [this]
      · rw [if_neg h, if_neg (by simp; omega)]; rfl

theorem setAt_some {cs r vs : List Value} {i : Nat} (h : setAt cs i vs = some r) : (vs = [] ∨ i + vs.length ≤ cs.length) ∧ r.length = cs.length ∧ ∀ j, r[j]? = if i ≤ j ∧ j < i + vs.length then vs[j - i]? else cs[j]? := by
  rw [setAt_eq] at h
  split at h
  · rename_i hv; cases h; subst hv
    exact ⟨.inl rfl, rfl, fun j => by rw [if_neg (fun hh => by simp at hh; omega)]⟩
  · split at h
    · rename_i hle
      cases h
      refine ⟨.inr hle, by simp; omega, fun j => ?_⟩
      rw [List.append_assoc, List.getElem?_append]
      simp only [List.length_take, Nat.min_eq_left (show i ≤ cs.length by omega)]
      by_cases h1 : j < i
      · rw [if_pos h1, if_neg (by omega), List.getElem?_take, if_pos h1]
      · rw [if_neg h1, List.getElem?_append]
        by_cases h2 : j - i < vs.length
        · rw [if_pos h2, if_pos (by omega)]
        · rw [if_neg h2, if_neg (by omega), List.getElem?_drop]
          congr 1
          omega
    · cases h

theorem rep_eq (n : Nat) (v : Value) (l : List Value) : rep n v l = List.replicate n v ++ l := by
  induction n with
  | zero => rfl
  | succ n ih =>
    have : rep (n + 1) v l = v :: rep n v l := rfl
    rw [this, ih, List.replicate_succ]; rfl
@[simp] theorem repL_zero (zs : List Value) : repL zs 0 = [] := rfl
theorem repL_succ (zs : List Value) (n : Nat) : repL zs (n + 1) = zs ++ repL zs n := rfl
theorem repL_length (zs : List Value) (n : Nat) : (repL zs n).length = n * zs.length := by
  induction n with
  | zero => simp
  | succ n ih => rw [repL_succ, List.length_append, ih, Nat.add_mul]; omega
theorem repL_one (v : Value) (n : Nat) : repL [v] n = List.replicate n v := by
  induction n with
  | zero => rfl
  | succ n ih => rw [repL_succ, ih, List.replicate_succ]; rfl

/-! ### Numbers -/
theorem ltI_eq (a b : Int) : ltI a b = decide (a < b) := by
  cases a with
  | ofNat a =>
    cases b with
    | ofNat b =>
      show Nat.blt a b = _
      rw [Bool.eq_iff_iff]
      simp only [Nat.blt_eq, decide_eq_true_eq, Int.ofNat_eq_natCast]
      omega
    | negSucc b => show false = _; simp; omega
  | negSucc a =>
    cases b with
    | ofNat b => show true = _; simp; omega
    | negSucc b =>
      show Nat.blt b a = _
      rw [Bool.eq_iff_iff]
      simp only [Nat.blt_eq, decide_eq_true_eq]
      omega
theorem eqI_eq (a b : Int) : eqI a b = (a == b) := by
  cases a with
  | ofNat a =>
    cases b with
    | ofNat b =>
      show Nat.beq a b = _
      rw [Bool.eq_iff_iff]
      simp only [Nat.beq_eq, beq_iff_eq, Int.ofNat_eq_natCast]
      omega
    | negSucc b =>
      show false = _
      symm; rw [beq_eq_false_iff_ne]; intro h; cases h
  | negSucc a =>
    cases b with
    | ofNat b =>
      show false = _
      symm; rw [beq_eq_false_iff_ne]; intro h; cases h
    | negSucc b =>
      show Nat.beq a b = _
      rw [Bool.eq_iff_iff]
      simp
theorem fitsK_spec {k : IntKind} {n : Int} (h : fitsK k n = true) : k.min ≤ n ∧ n ≤ k.max := by
  cases k <;> cases n <;> simp [fitsK, IntKind.min, IntKind.max, IntKind.signed, IntKind.bits, Nat.blt_eq] at h ⊢ <;> omega
theorem wrapK_eq (k : IntKind) (n : Int) : wrapK k n = k.wrap n := by
  unfold wrapK
  cases h : fitsK k n with
  | false => rfl
  | true =>
    have := fitsK_spec h
    simp only [cond_true]
    cases k <;> simp [IntKind.min, IntKind.max, IntKind.signed, IntKind.bits] at this <;> simp [IntKind.wrap, IntKind.signed, IntKind.bits] <;> (try split) <;> omega
theorem ix_eq (i : Int) (n : Nat) : ix i n = if 0 ≤ i ∧ i < n then some i.toNat else none := by
  cases i with
  | ofNat a =>
    show (bif Nat.blt a n then some a else none) = _
    by_cases h : a < n
    · rw [show Nat.blt a n = true from by simpa [Nat.blt_eq] using h, if_pos (by simp; omega)]; rfl
    · rw [show Nat.blt a n = false from by rw [Bool.eq_false_iff, ne_eq, Nat.blt_eq]; exact h, if_neg (by simp; omega)]; rfl
  | negSucc a => rw [if_neg (by omega)]; rfl
theorem ix_some {i : Int} {n j : Nat} (h : ix i n = some j) : i = (j : Int) ∧ j < n := by
  rw [ix_eq] at h
  split at h
  · cases h; omega
  · cases h
theorem ix_nat (a n : Nat) : ix (a : Int) n = if a < n then some a else none := by
  rw [ix_eq]
  by_cases h : a < n
  · rw [if_pos (by omega), if_pos h]; simp
  · rw [if_neg (by omega), if_neg h]
theorem sameKind_eq (a b : IntKind) : sameKind a b = decide (a = b) := by cases a <;> cases b <;> rfl
theorem eqBytes_eq : ∀ (a b : List UInt8), eqBytes a b = (a == b)
  | [], [] => rfl
  | [], _ :: _ => rfl
  | _ :: _, [] => rfl
  | x :: xs, y :: ys => by
    show (bif Nat.beq x.toNat y.toNat then eqBytes xs ys else false) = _
    rw [eqBytes_eq xs ys, List.cons_beq_cons]
    have : Nat.beq x.toNat y.toNat = (x == y) := by
      rw [Bool.eq_iff_iff]
      simp only [Nat.beq_eq, beq_iff_eq]
      exact UInt8.toNat_inj
    rw [this]
    cases (x == y) <;> rfl

end Go.Rx
