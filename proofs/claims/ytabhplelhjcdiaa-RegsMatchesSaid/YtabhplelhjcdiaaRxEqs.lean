/- What each operation answers, as equations to rewrite with. -/
import Derived.Test.YtabhplelhjcdiaaRxWp
/- What each operation answers, as equations to rewrite with. -/
set_option linter.unusedVariables false
set_option linter.unusedSimpArgs false
namespace Go.Rx
noncomputable section

abbrev vi (n : Int) : Value := .int .i64 n
abbrev vb (b : UInt8) : Value := .int .u8 b.toNat
abbrev vstr (l : List UInt8) : Value := .string ⟨⟨l⟩⟩

/-! ### Numbers -/
section
variable {k : IntKind} {a b : Int}
theorem binV_add : binV .add (.int k a) (.int k b) = some (.int k (wrapK k (a + b))) := by cases k <;> rfl
theorem binV_sub : binV .sub (.int k a) (.int k b) = some (.int k (wrapK k (a - b))) := by cases k <;> rfl
theorem binV_mul : binV .mul (.int k a) (.int k b) = some (.int k (wrapK k (a * b))) := by cases k <;> rfl
theorem binV_quo (h : b ≠ 0) : binV .quo (.int k a) (.int k b) = some (.int k (wrapK k (a.tdiv b))) := by
  have : binV .quo (.int k a) (.int k b) = bif eqI b 0 then none else some (.int k (wrapK k (a.tdiv b))) := by cases k <;> rfl
  rw [this, eqI_eq, show (b == 0) = false from by simpa using h]; rfl
theorem binV_rem (h : b ≠ 0) : binV .rem (.int k a) (.int k b) = some (.int k (a.tmod b)) := by
  have : binV .rem (.int k a) (.int k b) = bif eqI b 0 then none else some (.int k (a.tmod b)) := by cases k <;> rfl
  rw [this, eqI_eq, show (b == 0) = false from by simpa using h]; rfl
theorem binV_eql : binV .eql (.int k a) (.int k b) = some (.bool (decide (a = b))) := by
  have : binV .eql (.int k a) (.int k b) = some (.bool (eqI a b)) := by cases k <;> rfl
  rw [this, eqI_eq]; rfl
theorem binV_neq : binV .neq (.int k a) (.int k b) = some (.bool (decide (¬ a = b))) := by
  have : binV .neq (.int k a) (.int k b) = some (.bool (!eqI a b)) := by cases k <;> rfl
  rw [this, eqI_eq, decide_not]; rfl
theorem binV_lss : binV .lss (.int k a) (.int k b) = some (.bool (decide (a < b))) := by
  have : binV .lss (.int k a) (.int k b) = some (.bool (ltI a b)) := by cases k <;> rfl
  rw [this, ltI_eq]
theorem binV_gtr : binV .gtr (.int k a) (.int k b) = some (.bool (decide (b < a))) := by
  have : binV .gtr (.int k a) (.int k b) = some (.bool (ltI b a)) := by cases k <;> rfl
  rw [this, ltI_eq]
theorem binV_leq : binV .leq (.int k a) (.int k b) = some (.bool (decide (a ≤ b))) := by
  have : binV .leq (.int k a) (.int k b) = some (.bool (!ltI b a)) := by cases k <;> rfl
  rw [this, ltI_eq, ← decide_not]
  congr 2
  simp
theorem binV_geq : binV .geq (.int k a) (.int k b) = some (.bool (decide (b ≤ a))) := by
  have : binV .geq (.int k a) (.int k b) = some (.bool (!ltI a b)) := by cases k <;> rfl
  rw [this, ltI_eq, ← decide_not]
  congr 2
  simp
end
theorem wrap_i64 {n : Int} (h1 : -9223372036854775808 ≤ n) (h2 : n < 9223372036854775808) : wrapK .i64 n = n := by
  unfold wrapK
  have : fitsK .i64 n = true := by
    cases n with
    | ofNat a => show Nat.blt a _ = true; rw [Nat.blt_eq]; simp at h2; omega
    | negSucc a => show Nat.blt a _ = true; rw [Nat.blt_eq]; omega
  rw [this]; rfl
theorem wrap_u8 {n : Int} (h1 : 0 ≤ n) (h2 : n < 256) : wrapK .u8 n = n := by
  unfold wrapK
  have : fitsK .u8 n = true := by
    cases n with
    | ofNat a => show Nat.blt a _ = true; rw [Nat.blt_eq]; simp at h2; omega
    | negSucc a => omega
  rw [this]; rfl
theorem wrap_u64 {n : Int} (h1 : 0 ≤ n) (h2 : n < 18446744073709551616) : wrapK .u64 n = n := by
  unfold wrapK
  have : fitsK .u64 n = true := by
    cases n with
    | ofNat a => show Nat.blt a _ = true; rw [Nat.blt_eq]; simp at h2; omega
    | negSucc a => omega
  rw [this]; rfl
theorem wrap_i32 {n : Int} (h1 : -2147483648 ≤ n) (h2 : n < 2147483648) : wrapK .i32 n = n := by
  unfold wrapK
  have : fitsK .i32 n = true := by
    cases n with
    | ofNat a => show Nat.blt a _ = true; rw [Nat.blt_eq]; simp at h2; omega
    | negSucc a => show Nat.blt a _ = true; rw [Nat.blt_eq]; omega
  rw [this]; rfl
theorem iConv_int {k k' : IntKind} {n : Int} {h : Heap} : iConv k (.int k' n) h = some (.int k (wrapK k n), h) := rfl
theorem wrap_u8_mod (n : Int) : wrapK .u8 n = n % 256 := by
  rw [wrapK_eq]
  simp [IntKind.wrap, IntKind.signed, IntKind.bits]
theorem unV_neg {k : IntKind} {n : Int} : unV .neg (.int k n) = some (.int k (wrapK k (0 - n))) := rfl
theorem unV_not {b : Bool} : unV .not (.bool b) = some (.bool !b) := rfl
theorem iPick_bool {t : Bool} {a b : Value} {h : Heap} : iPick (.bool t) a b h = some (if t = true then a else b, h) := by cases t <;> rfl
theorem ix_ok {i : Int} {n : Nat} (h0 : 0 ≤ i) (h1 : i < n) : ix i n = some i.toNat := by rw [ix_eq, if_pos ⟨h0, h1⟩]
theorem mm_max {k : IntKind} {a b : Int} : mmL true (.int k a) [.int k b] = some (.int k (max a b)) := by
  show (match mm2 true (.int k a) (.int k b) with | some z => mmL true z [] | none => none) = _
  have : mm2 true (.int k a) (.int k b) = some (.int k (max a b)) := by
    show (bif sameKind k k then some (Value.int k (bif ltI a b then b else a)) else none) = _
    rw [sameKind_eq, decide_eq_true rfl, ltI_eq]
    by_cases h : a < b
    · rw [decide_eq_true h]; simp only [cond_true]; rw [Int.max_eq_right (by omega)]
    · rw [decide_eq_false h]; simp only [cond_true, cond_false]; rw [Int.max_eq_left (by omega)]
  rw [this]; rfl
theorem mm_min {k : IntKind} {a b : Int} : mmL false (.int k a) [.int k b] = some (.int k (min a b)) := by
  show (match mm2 false (.int k a) (.int k b) with | some z => mmL false z [] | none => none) = _
  have : mm2 false (.int k a) (.int k b) = some (.int k (min a b)) := by
    show (bif sameKind k k then some (Value.int k (bif ltI b a then b else a)) else none) = _
    rw [sameKind_eq, decide_eq_true rfl, ltI_eq]
    by_cases h : b < a
    · rw [decide_eq_true h]; simp only [cond_true]; rw [Int.min_eq_right (by omega)]
    · rw [decide_eq_false h]; simp only [cond_true, cond_false]; rw [Int.min_eq_left (by omega)]
  rw [this]; rfl
theorem iMinmax_cons {mx : Bool} {x : Value} {r : List Value} {h : Heap} : iMinmax mx (x :: r) h = ret h (mmL mx x r) := rfl

/-! ### Strings -/
theorem sdata (l : List UInt8) : (⟨⟨l⟩⟩ : ByteArray).data.toList = l := rfl
theorem str_add {a b : List UInt8} (h : a.length + b.length ≤ 9223372036854775807) : binV .add (vstr a) (vstr b) = some (vstr (a ++ b)) := by
  show (bif Nat.ble (a.length + b.length) 9223372036854775807 then some (vstr (a ++ b)) else none) = _
  rw [show Nat.ble (a.length + b.length) 9223372036854775807 = true from by rw [Nat.ble_eq]; exact h]; rfl
theorem str_eql {a b : List UInt8} : binV .eql (vstr a) (vstr b) = some (.bool (decide (a = b))) := by
  show some (Value.bool (eqBytes a b)) = _
  rw [eqBytes_eq]
  congr 2
  by_cases h : a = b
  · subst h; simp
  · rw [decide_eq_false h]; simpa using h
theorem str_neq {a b : List UInt8} : binV .neq (vstr a) (vstr b) = some (.bool (decide (¬ a = b))) := by
  show some (Value.bool (!eqBytes a b)) = _
  rw [eqBytes_eq, decide_not]
  congr 3
  by_cases h : a = b
  · subst h; simp
  · rw [decide_eq_false h]; simpa using h
theorem iLent_str {l : List UInt8} {h : Heap} : iLent (vstr l) h = some (vi l.length, h) := rfl
theorem iConvs_str {l : List UInt8} {h : Heap} : iConvs (vstr l) h = some (vstr l, h) := rfl
theorem iIxt_str {l : List UInt8} {i : Int} {k : IntKind} {h : Heap} (h0 : 0 ≤ i) (h1 : i < l.length) : iIxt (vstr l) (.int k i) h = some (vb (l.getD i.toNat 0), h) := by
  show (match ix i l.length with | some j => (match l[j]? with | some b => some (Value.int .u8 b.toNat, h) | none => none) | none => none) = _
  rw [ix_ok h0 h1]
  have hl : i.toNat < l.length := by omega
  simp only [List.getElem?_eq_getElem hl, List.getD_eq_getElem?_getD, Option.getD_some]
theorem bound_none {y d : Nat} : bound none y d = some d := rfl
theorem bound_some {k : IntKind} {i : Int} {y d : Nat} : bound (some (.int k i)) y d = ix i (y + 1) := rfl
theorem sls_lh {l : List UInt8} {k k' : IntKind} {a b : Int} (h0 : 0 ≤ a) (h1 : a ≤ b) (h2 : b ≤ l.length) : sliceS (vstr l) (some (.int k a)) (some (.int k' b)) = some (vstr ((l.drop a.toNat).take (b.toNat - a.toNat))) := by
  unfold sliceS
  simp only [bounds, bound_none, bound_some]
  rw [ix_ok (by omega) (by omega), ]
  simp only
  rw [ix_ok (by omega) (by omega)]
theorem sls_h {l : List UInt8} {k' : IntKind} {b : Int} (h1 : 0 ≤ b) (h2 : b ≤ l.length) : sliceS (vstr l) none (some (.int k' b)) = some (vstr (l.take b.toNat)) := by
  unfold sliceS
  simp only [bounds, bound_none, bound_some]
  rw [ix_ok (by omega) (by omega)]
  simp
theorem sls_l {l : List UInt8} {k : IntKind} {a : Int} (h0 : 0 ≤ a) (h1 : a ≤ l.length) : sliceS (vstr l) (some (.int k a)) none = some (vstr (l.drop a.toNat)) := by
  unfold sliceS
  simp only [bounds, bound_none, bound_some]
  rw [ix_ok (by omega) (by omega)]
  simp only [Option.some.injEq, Value.string.injEq, ByteArray.mk.injEq, Array.mk.injEq]
  rw [List.take_of_length_le]
  simp

/-! ### Bools, pointers, aggregates -/
theorem iEqc_some {k : Nat} {neg : Bool} {x y : Value} {h : Heap} : iEqc k neg x y h = (match eqC k x y with | some b => some (.bool (bif neg then !b else b), h) | none => none) := rfl
theorem eqc_bool {a b : Bool} {h : Heap} : iEqc 0 false (.bool a) (.bool b) h = some (.bool (a == b), h) := rfl
theorem neqc_bool {a b : Bool} {h : Heap} : iEqc 0 true (.bool a) (.bool b) h = some (.bool (!(a == b)), h) := rfl
theorem iNilchk_some {a : Addr} {h : Heap} : iNilchk (.pointer (some a)) h = some (.pointer (some a), h) := rfl
theorem iFadr_some {a : Addr} {off : Nat} {h : Heap} : iFadr (.pointer (some a)) off h = some (.pointer (some ⟨a.block, a.off + off, a.spot⟩), h) := by
  show some (Value.pointer (some (movA a off)), h) = _
  unfold movA
  cases off with
  | zero => rfl
  | succ n => rfl
theorem movA_eq {a : Addr} {n : Nat} : movA a n = ⟨a.block, a.off + n, a.spot⟩ := by
  unfold movA
  cases n with
  | zero => rfl
  | succ n => rfl
theorem iFld_agg {cs : List Value} {off : Nat} {n : Option Nat} {h : Heap} : iFld off n (.agg ⟨cs⟩) h = ret h (partV cs off n) := rfl
theorem partV_none {cs : List Value} {off : Nat} : partV cs off none = cs[off]? := by
  unfold partV
  rw [cut_one]
  cases cs[off]? <;> rfl
theorem iExt_tuple {vs : List Value} {i : Nat} {h : Heap} : iExt i (.tuple ⟨vs⟩) h = ret h vs[i]? := by
  show (match vs[i]? with | some v => some (v, h) | none => none) = _
  cases vs[i]? <;> rfl

/-! ### Slots: the temporaries apart -/
theorem Tr.putP_comm {α : Type} (x y : Option α) : ∀ (p q : Pth) (t : Tr α), p ≠ q → Tr.putP x p (Tr.putP y q t) = Tr.putP y q (Tr.putP x p t)
  | .e, .e, _, h => absurd rfl h
  | .e, .o q, .nil, _ => rfl
  | .e, .o q, .node _ _ _, _ => rfl
  | .e, .i q, .nil, _ => rfl
  | .e, .i q, .node _ _ _, _ => rfl
  | .o p, .e, .nil, _ => rfl
  | .o p, .e, .node _ _ _, _ => rfl
  | .i p, .e, .nil, _ => rfl
  | .i p, .e, .node _ _ _, _ => rfl
  | .o p, .i q, .nil, _ => rfl
  | .o p, .i q, .node _ _ _, _ => rfl
  | .i p, .o q, .nil, _ => rfl
  | .i p, .o q, .node _ _ _, _ => rfl
  | .o p, .o q, .nil, h => by
    show Tr.node .nil none (Tr.putP x p (Tr.putP y q .nil)) = Tr.node .nil none (Tr.putP y q (Tr.putP x p .nil))
    rw [Tr.putP_comm x y p q .nil (fun e => h (by rw [e]))]
  | .o p, .o q, .node l v r, h => by
    show Tr.node l v (Tr.putP x p (Tr.putP y q r)) = Tr.node l v (Tr.putP y q (Tr.putP x p r))
    rw [Tr.putP_comm x y p q r (fun e => h (by rw [e]))]
  | .i p, .i q, .nil, h => by
    show Tr.node (Tr.putP x p (Tr.putP y q .nil)) none .nil = Tr.node (Tr.putP y q (Tr.putP x p .nil)) none .nil
    rw [Tr.putP_comm x y p q .nil (fun e => h (by rw [e]))]
  | .i p, .i q, .node l v r, h => by
    show Tr.node (Tr.putP x p (Tr.putP y q l)) v r = Tr.node (Tr.putP y q (Tr.putP x p l)) v r
    rw [Tr.putP_comm x y p q l (fun e => h (by rw [e]))]
theorem Env.s_comm (e : Env) {i j : Nat} (u v : Value) (h : i ≠ j) : (e.s i u).s j v = (e.s j v).s i u :=
  Tr.putP_comm _ _ _ _ e (fun e => h (pth_inj e).symm)

/-- Slots from n on: as listed; the others: as they were. -/
def TE (n : Nat) (l : List (Nat × Value)) (e : Env) : Env := match l with
  | [] => e
  | (i, v) :: r => if n ≤ i then (TE n r e).s i v else TE n r e
def lk (l : List (Nat × Value)) (e : Env) (j : Nat) : Value := match l with
  | [] => e.g j
  | (i, v) :: r => if i = j then v else lk r e j
theorem TE_nil {n : Nat} {e : Env} : TE n [] e = e := rfl
theorem TE_s {n i : Nat} {l : List (Nat × Value)} {e : Env} {v : Value} : (TE n l e).s i v = if n ≤ i then TE n ((i, v) :: l) e else TE n l (e.s i v) := by
  by_cases h : n ≤ i
  · rw [if_pos h]
    show _ = (if n ≤ i then (TE n l e).s i v else TE n l e)
    rw [if_pos h]
  · rw [if_neg h]
    induction l with
    | nil => rfl
    | cons p r ih =>
      obtain ⟨j, u⟩ := p
      show (if n ≤ j then (TE n r e).s j u else TE n r e).s i v = (if n ≤ j then (TE n r (e.s i v)).s j u else TE n r (e.s i v))
      by_cases hj : n ≤ j
      · rw [if_pos hj, if_pos hj, Env.s_comm _ _ _ (by omega), ih]
      · rw [if_neg hj, if_neg hj, ih]
theorem TE_g {n j : Nat} {l : List (Nat × Value)} {e : Env} : (TE n l e).g j = if n ≤ j then lk l e j else e.g j := by
  induction l with
  | nil => rw [TE_nil]; split <;> rfl
  | cons p r ih =>
    obtain ⟨i, u⟩ := p
    show Env.g (if n ≤ i then (TE n r e).s i u else TE n r e) j = (if n ≤ j then (if i = j then u else lk r e j) else e.g j)
    by_cases hi : n ≤ i
    · rw [if_pos hi, Env.g_s, ih]
      by_cases hj : n ≤ j
      · rw [if_pos hj, if_pos hj]
      · rw [if_neg hj, if_neg hj, if_neg (by omega)]
    · rw [if_neg hi, ih]
      by_cases hj : n ≤ j
      · rw [if_pos hj, if_pos hj, if_neg (by omega)]
      · rw [if_neg hj, if_neg hj]
theorem lk_nil {e : Env} {j : Nat} : lk [] e j = e.g j := rfl
theorem lk_cons {i j : Nat} {v : Value} {l : List (Nat × Value)} {e : Env} : lk ((i, v) :: l) e j = if i = j then v else lk l e j := rfl

/-- Some slots are as they were. -/
def Agree (l : List Nat) (e' e : Env) : Prop := match l with
  | [] => True
  | i :: r => e'.g i = e.g i ∧ Agree r e' e
theorem Agree.refl : ∀ (l : List Nat) (e : Env), Agree l e e
  | [], _ => trivial
  | _ :: r, e => ⟨rfl, Agree.refl r e⟩
variable {M : Mach}
theorem WC_cut (n : Nat) (l : List Nat) {c : AC} {e : Env} {h : Heap} {K : KC} (hh : ∀ e', Agree l e' e → WC M c (TE n [] e') h K) : WC M c e h K := hh e (Agree.refl l e)
theorem WB_cut (n : Nat) (l : List Nat) {c : List GI} {e : Env} {h : Heap} {K : KB} (hh : ∀ e', Agree l e' e → WB M c (TE n [] e') h K) : WB M c e h K := hh e (Agree.refl l e)
theorem WF_eqT (n : Nat) {f : Nat} {args : List Value} {h : Heap} {K : KF} {af : AF} (hO : M.O f = none) (hF : M.F f = some af) : WF M f args h K = WC M af.body (TE n [] (envOf args 0 .nil)) h (FunK af.results K) := WF_eq hO hF
theorem WC_loopT (n : Nat) {a : AC} {e : Env} {h : Heap} {K : KC} (I : Nat → Env → Heap → Prop) (m : Nat) (h0 : I m e h) (step : ∀ m e h, I m e h → WC M a (TE n [] e) h (LoopK M I m K)) : WC M (.loop a) e h K := WC_loop I m h0 step
theorem WC_seq_midT (n : Nat) {a b : AC} {e : Env} {h : Heap} {K : KC} (J : Env → Heap → Prop) (h1 : WC M a e h (MidK J K)) (h2 : ∀ e' h', J e' h' → WC M b (TE n [] e') h' K) : WC M (.seq a b) e h K := WC_seq_mid J h1 h2

/-- A loop in its block: its invariant, and what holds where it is left. -/
def BLoopK (M : Mach) (I : Nat → Env → Heap → Prop) (m : Nat) (id : Nat) (J : Env → Heap → Prop) (K : KC) : KC := fun x e h => match x with
  | .normal => ∃ m', m' < m ∧ I m' e h
  | .exit i => if i = id then J e h else K (.exit i) e h
  | .ret => K .ret e h
theorem BLoopK_normal {I : Nat → Env → Heap → Prop} {m id : Nat} {J : Env → Heap → Prop} {K : KC} {e : Env} {h : Heap} : BLoopK M I m id J K .normal e h = ∃ m', m' < m ∧ I m' e h := rfl
theorem BLoopK_exit {I : Nat → Env → Heap → Prop} {m id i : Nat} {J : Env → Heap → Prop} {K : KC} {e : Env} {h : Heap} : BLoopK M I m id J K (.exit i) e h = if i = id then J e h else K (.exit i) e h := rfl
theorem BLoopK_ret {I : Nat → Env → Heap → Prop} {m id : Nat} {J : Env → Heap → Prop} {K : KC} {e : Env} {h : Heap} : BLoopK M I m id J K .ret e h = K .ret e h := rfl
theorem WC_bloop (n : Nat) {a : AC} {id : Nat} {e : Env} {h : Heap} {K : KC} (I : Nat → Env → Heap → Prop) (J : Env → Heap → Prop) (h0 : ∃ m, I m e h) (step : ∀ m e h, I m e h → WC M a (TE n [] e) h (BLoopK M I m id J K))
    (fin : ∀ e h, J e h → K .normal (TE n [] e) h) : WC M (.loop a) e h (BlockK id K) := by
  obtain ⟨m, h0⟩ := h0
  refine WC_loop I m h0 fun m e h hi => WC_mono (step m e h hi) fun x e' h' hx => ?_
  cases x with
  | normal => exact hx
  | exit i =>
    have hx : if i = id then J e' h' else K (.exit i) e' h' := hx
    show if i = id then K .normal e' h' else K (.exit i) e' h'
    split
    · rename_i hi
      rw [if_pos hi] at hx
      exact fin _ _ hx
    · rename_i hi
      rw [if_neg hi] at hx
      exact hx
  | ret => exact hx
theorem WC_midT (n : Nat) {c : AC} {e : Env} {h : Heap} {K : KC} (J : Env → Heap → Prop) (h1 : WC M c e h (MidK J K)) (h2 : ∀ e' h', J e' h' → K .normal (TE n [] e') h') : WC M c e h K := by
  refine WC_mono h1 fun x e' h' hx => ?_
  cases x with
  | normal => exact h2 e' h' hx
  | exit i => exact hx
  | ret => exact hx

end
end Go.Rx
