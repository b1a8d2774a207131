/- Each operation of the abstract machine is the real one's: arithmetic, tests, conversions. -/
import Derived.Test.YtabhplelhjcdiaaRxOps2
import Derived.Laws.Strings
/- Each operation of the abstract machine is the real one's: arithmetic, tests, conversions. -/
set_option linter.unusedVariables false
set_option linter.unusedSimpArgs false
namespace Go.Rx

variable {P : Program} {ρ : Ren} {H H' : Heap} {w : World} {e : Env} {a : Act} {nt : Nat}

theorem wrap_in {k : IntKind} {n : Int} (h : k.min ≤ n ∧ n ≤ k.max) : k.wrap n = n := by
  cases k <;> simp [IntKind.min, IntKind.max, IntKind.signed, IntKind.bits] at h <;> simp [IntKind.wrap, IntKind.signed, IntKind.bits] <;> (try split) <;> omega
theorem max_pow (k : IntKind) : ∃ m, m ≤ k.bits ∧ k.max = 2 ^ m - 1 := by
  cases k
  · exact ⟨7, by decide, by decide⟩
  · exact ⟨15, by decide, by decide⟩
  · exact ⟨31, by decide, by decide⟩
  · exact ⟨63, by decide, by decide⟩
  · exact ⟨8, by decide, by decide⟩
  · exact ⟨16, by decide, by decide⟩
  · exact ⟨32, by decide, by decide⟩
  · exact ⟨64, by decide, by decide⟩
theorem min_le0 (k : IntKind) : k.min ≤ 0 := by cases k <;> decide

theorem bits_wrap {k : IntKind} {m r : Nat} (hm : k.max = 2 ^ m - 1) (hr : r < 2 ^ m) : k.wrap ((r : Nat) : Int) = (r : Int) := by
  refine wrap_in ⟨Int.le_trans (min_le0 k) (by omega), ?_⟩
  rw [hm]
  have : ((2 ^ m : Nat) : Int) = (2 : Int) ^ m := by simp
  omega

theorem bitsI_eq (k : IntKind) (f : Nat → Nat → Nat) (g : BitVec k.bits → BitVec k.bits → BitVec k.bits) (hfg : ∀ x y : BitVec k.bits, (g x y).toNat = f x.toNat y.toNat)
    (hlt : ∀ m a b, a < 2 ^ m → b < 2 ^ m → f a b < 2 ^ m) (x y : Int) : bitsI k f g x y = .int k (k.wrap (g (BitVec.ofInt k.bits x) (BitVec.ofInt k.bits y)).toNat) := by
  unfold bitsI
  cases hx : fitsK k x with
  | false => simp
  | true =>
    cases hy : fitsK k y with
    | false => simp
    | true =>
      simp only [Bool.and_self, cond_true]
      cases x with
      | negSucc a => rfl
      | ofNat a =>
        cases y with
        | negSucc b => rfl
        | ofNat b =>
          obtain ⟨m, hmb, hm⟩ := max_pow k
          have h2 : ((2 ^ m : Nat) : Int) = (2 : Int) ^ m := by simp
          have ha := (fitsK_spec hx).2
          have hb := (fitsK_spec hy).2
          rw [hm] at ha hb
          have ha' : a < 2 ^ m := by simp only [Int.ofNat_eq_natCast] at ha; omega
          have hb' : b < 2 ^ m := by simp only [Int.ofNat_eq_natCast] at hb; omega
          have hpow : 2 ^ m ≤ 2 ^ k.bits := Nat.pow_le_pow_right (by omega) hmb
          have e1 : (BitVec.ofInt k.bits (Int.ofNat a)).toNat = a := by
            rw [BitVec.toNat_ofInt]
            simp only [Int.ofNat_eq_natCast]
            rw [Int.emod_eq_of_lt (by omega) (by omega)]
            simp
          have e2 : (BitVec.ofInt k.bits (Int.ofNat b)).toNat = b := by
            rw [BitVec.toNat_ofInt]
            simp only [Int.ofNat_eq_natCast]
            rw [Int.emod_eq_of_lt (by omega) (by omega)]
            simp
          have := hfg (BitVec.ofInt k.bits (Int.ofNat a)) (BitVec.ofInt k.bits (Int.ofNat b))
          rw [e1, e2] at this
          rw [this, bits_wrap hm (hlt m a b ha' hb')]
          rfl

theorem le_not (x y : Int) : decide (x ≤ y) = !decide (y < x) := by
  by_cases h : x ≤ y
  · have : ¬ y < x := by omega
    simp [h, this]
  · have : y < x := by omega
    simp [h, this]
theorem bifN {α : Type} {c : Bool} {x v : α} (h : (bif c then none else some x) = some v) : c = false ∧ v = x := by
  cases c
  · cases h; exact ⟨rfl, rfl⟩
  · cases h
theorem bifS {α : Type} {c : Bool} {x : Option α} {v : α} (h : (bif c then x else none) = some v) : c = true ∧ x = some v := by
  cases c
  · cases h
  · exact ⟨rfl, h⟩
theorem VR.int' (ρ : Ren) {v : Value} {k : IntKind} {n : Int} (h : v = .int k n) : VR ρ v v := by subst h; exact .int _ _

theorem bitsI_int (k : IntKind) (f : Nat → Nat → Nat) (g : BitVec k.bits → BitVec k.bits → BitVec k.bits) (x y : Int) : ∃ n, bitsI k f g x y = .int k n := by
  unfold bitsI
  cases (fitsK k x && fitsK k y)
  · exact ⟨_, rfl⟩
  · cases x <;> cases y <;> exact ⟨_, rfl⟩

/-- What the real machine makes of two whole numbers. -/
theorem binI_run {op : BinOp} {k : IntKind} {x y : Int} {v : Value} (hsh : isShift op = false) (h : binI op k x y = some v) (t : TypeId) (w : World) : (binOp op t (.int k x) (.int k y)).run P w = .ok v w := by
  cases op <;> simp only [isShift, Bool.true_eq_false] at hsh <;> simp only [binI, Option.some.injEq] at h
  case add => subst h; simp [binOp, Op.intArith, wrapK_eq]
  case sub => subst h; simp [binOp, Op.intArith, wrapK_eq]; rfl
  case mul => subst h; simp [binOp, Op.intArith, wrapK_eq]
  case quo =>
    rw [eqI_eq] at h
    cases hy : (y == 0) with
    | true => rw [hy] at h; cases h
    | false =>
      rw [hy] at h
      have : ¬ y = 0 := by simpa using hy
      cases h
      simp [binOp, Op.intDiv, this, wrapK_eq]
  case rem =>
    rw [eqI_eq] at h
    cases hy : (y == 0) with
    | true => rw [hy] at h; cases h
    | false =>
      rw [hy] at h
      have : ¬ y = 0 := by simpa using hy
      cases h
      simp [binOp, Op.intDiv, this]
  case and =>
    subst h
    rw [bitsI_eq k Nat.land _ (fun x y => BitVec.toNat_and x y) (fun m a b ha hb => Nat.lt_of_le_of_lt Nat.and_le_left ha)]
    simp [binOp, Op.intBits]
  case or =>
    subst h
    rw [bitsI_eq k Nat.lor _ (fun x y => BitVec.toNat_or x y) (fun m a b ha hb => Nat.or_lt_two_pow ha hb)]
    simp [binOp, Op.intBits]
  case xor =>
    subst h
    rw [bitsI_eq k Nat.xor _ (fun x y => BitVec.toNat_xor x y) (fun m a b ha hb => Nat.xor_lt_two_pow ha hb)]
    simp [binOp, Op.intBits]
  case andNot => subst h; simp [binOp, Op.intBits]
  case eql => subst h; simp [binOp, Op.intCmp, eqI_eq]
  case neq => subst h; simp [binOp, Op.intCmp, eqI_eq]; rfl
  case lss => subst h; simp [binOp, Op.intCmp, ltI_eq]
  case leq => subst h; simp [binOp, Op.intCmp, ltI_eq, le_not]
  case gtr => subst h; simp [binOp, Op.intCmp, ltI_eq]
  case geq => subst h; simp [binOp, Op.intCmp, ltI_eq, le_not]

theorem shiftI_run {op : BinOp} {k k' : IntKind} {x y : Int} {v : Value} (h : shiftI op k x y = some v) (t : TypeId) (w : World) : (binOp op t (.int k x) (.int k' y)).run P w = .ok v w := by
  cases op <;> simp only [shiftI, reduceCtorEq] at h
  case shl =>
    rw [ltI_eq] at h
    by_cases hy : y < 0
    · simp [hy] at h
    · simp only [hy, decide_false, cond_false, Option.some.injEq] at h
      subst h
      have h1 : ((2 ^ min y.toNat k.bits : Nat) : Int) = (2 : Int) ^ min y.toNat k.bits := by simp
      have h2 : Int.mul x (Int.ofNat (Nat.pow 2 (min y.toNat k.bits))) = x * 2 ^ min y.toNat k.bits := by
        rw [← h1]; rfl
      rw [wrapK_eq, h2]
      simp [binOp, Op.shift, hy]
  case shr =>
    rw [ltI_eq] at h
    by_cases hy : y < 0
    · simp [hy] at h
    · simp only [hy, decide_false, cond_false, Option.some.injEq] at h
      subst h
      cases x with
      | negSucc a => simp [binOp, Op.shift, hy]
      | ofNat a =>
        have h1 : ((2 ^ min y.toNat k.bits : Nat) : Int) = (2 : Int) ^ min y.toNat k.bits := by simp
        have h2 : (Int.ofNat a).fdiv (2 ^ min y.toNat k.bits) = Int.ofNat (Nat.shiftRight a (min y.toNat k.bits)) := by
          rw [← h1, Int.fdiv_eq_ediv_of_nonneg _ (Int.natCast_nonneg _)]
          show _ = ((a >>> (min y.toNat k.bits) : Nat) : Int)
          rw [Nat.shiftRight_eq_div_pow]
          simp
        simp only [binOp, Op.shift, hy, if_false, h2]
        rfl

theorem toList_bytes (s : ByteArray) : s.toList = s.data.toList := ByteArray.toList_eq s
theorem ltBytes_eq : ∀ (x y : List UInt8), ltBytes x y = Op.bytesLess x y
  | [], [] => rfl
  | [], _ :: _ => rfl
  | _ :: _, [] => rfl
  | a :: x, b :: y => by
    show (bif Nat.blt a.toNat b.toNat then true else bif Nat.beq a.toNat b.toNat then ltBytes x y else false) = _
    rw [ltBytes_eq x y]
    simp only [Op.bytesLess]
    have e1 : Nat.blt a.toNat b.toNat = decide (a < b) := by
      rw [Bool.eq_iff_iff]; simp [Nat.blt_eq, UInt8.lt_iff_toNat_lt]
    have e2 : Nat.beq a.toNat b.toNat = (a == b) := by
      rw [Bool.eq_iff_iff, Nat.beq_eq, beq_iff_eq]; exact UInt8.toNat_inj
    rw [e1, e2]
    cases decide (a < b) <;> cases (a == b) <;> rfl
theorem bytesLess_tri : ∀ (x y : List UInt8), (Op.bytesLess x y || x == y) = !(Op.bytesLess y x)
  | [], [] => rfl
  | [], _ :: _ => rfl
  | _ :: _, [] => rfl
  | a :: x, b :: y => by
    have ih := bytesLess_tri x y
    simp only [Op.bytesLess, List.cons_beq_cons]
    by_cases h1 : a < b
    · have h2 : ¬ b < a := by simp [UInt8.lt_iff_toNat_lt] at *; omega
      have h3 : ¬ b = a := by rintro rfl; simp [UInt8.lt_iff_toNat_lt] at h1
      simp [h1, h2, h3]
    · by_cases h2 : b < a
      · have h3 : ¬ a = b := by rintro rfl; simp [UInt8.lt_iff_toNat_lt] at h2
        simp [h1, h2, h3]
      · have h3 : a = b := by
          apply UInt8.toNat_inj.1
          simp [UInt8.lt_iff_toNat_lt] at h1 h2
          omega
        subst h3
        simp [h1, ih]

theorem strOp_run {op : BinOp} {x y : ByteArray} {v : Value} (h : strOp op x y = some v) (t : TypeId) (w : World) : (binOp op t (.string x) (.string y)).run P w = .ok v w := by
  cases op <;> simp only [strOp, Option.some.injEq, reduceCtorEq] at h
  case add =>
    cases hb : Nat.ble (x.data.toList.length + y.data.toList.length) 9223372036854775807 with
    | false => rw [hb] at h; cases h
    | true =>
      rw [hb] at h
      cases h
      have hle := Nat.le_of_ble_eq_true hb
      have h1 : x.size = x.data.toList.length := by rw [Array.length_toList]; rfl
      have h2 : y.size = y.data.toList.length := by rw [Array.length_toList]; rfl
      have hn : ¬ (((x.size + y.size : Nat) : Int) > IntKind.i64.max) := by
        have : IntKind.i64.max = 9223372036854775807 := by decide
        rw [this]; omega
      have e1 : x ++ y = ⟨⟨x.data.toList ++ y.data.toList⟩⟩ := by
        apply ByteArray.ext
        rw [ByteArray.data_append]
        apply Array.ext'
        simp
      simp only [binOp, Op.stringOp, hn, if_false, e1]
      rfl
  case eql => subst h; simp [binOp, Op.stringOp, eqBytes_eq, toList_bytes]
  case neq => subst h; simp [binOp, Op.stringOp, eqBytes_eq, toList_bytes]
  case lss => subst h; simp [binOp, Op.stringOp, ltBytes_eq, toList_bytes]
  case leq => subst h; simp only [binOp, Op.stringOp, ltBytes_eq, toList_bytes, bytesLess_tri]; rfl
  case gtr => subst h; simp only [binOp, Op.stringOp, ltBytes_eq, toList_bytes, bytesLess_tri]; simp
  case geq => subst h; simp [binOp, Op.stringOp, ltBytes_eq, toList_bytes]

theorem sameKind_iff {k k' : IntKind} (h : sameKind k k' = true) : k = k' := by rw [sameKind_eq] at h; simpa using h

theorem binV_run {op : BinOp} {x y x' y' : Value} {v : Value} (h : binV op x y = some v) (hx : VR ρ x x') (hy : VR ρ y y') (t : TypeId) (X Y : Operand) (w : World) :
    ∃ v', (do eqGuard op t X Y x' y'; binOp op t x' y' : Sem Value).run P w = .ok v' w ∧ VR ρ v v' := by
  unfold binV at h
  split at h
  · rename_i k p k' q
    cases hx
    cases hy
    have hg : (eqGuard op t X Y (.int k p) (.int k' q)).run P w = .ok () w := by unfold eqGuard; split <;> rfl
    have hv : VR ρ v v := by
      cases hsh : isShift op with
      | true =>
        rw [hsh] at h
        simp only [cond_true] at h
        cases op <;> simp only [shiftI, reduceCtorEq] at h <;> exact .int' ρ (bifN h).2
      | false =>
        rw [hsh] at h
        simp only [cond_false] at h
        cases hk : sameKind k k' with
        | false => rw [hk] at h; cases h
        | true =>
          rw [hk] at h
          simp only [cond_true] at h
          cases op <;> simp only [binI, Option.some.injEq, reduceCtorEq] at h <;> first
            | (subst h; exact .int _ _)
            | (subst h; exact .bool _)
            | (obtain ⟨n, hn⟩ := bitsI_int k _ _ p q; exact .int' ρ (h.symm.trans hn))
            | exact .int' ρ (bifN h).2
    refine ⟨v, ?_, hv⟩
    simp only [Sem.run_bind, hg, Result.andThen_ok]
    cases hsh : isShift op with
    | true => rw [hsh] at h; exact shiftI_run h t w
    | false =>
      rw [hsh] at h
      simp only [cond_false] at h
      cases hk : sameKind k k' with
      | false => rw [hk] at h; cases h
      | true =>
        rw [hk] at h
        obtain rfl := sameKind_iff hk
        exact binI_run hsh h t w
  · rename_i c z q
    cases hy
    split at h
    · cases hlt : ltI (.ofNat c) q with
      | true => rw [hlt] at h; cases h
      | false =>
        rw [hlt] at h
        cases h
        rw [ltI_eq] at hlt
        cases hx with
        | cap _ c' hc =>
          refine ⟨.bool false, ?_, .bool _⟩
          have : ¬ ((c' : Int) < q) := by simp at hlt; omega
          simp [eqGuard, binOp, Op.intCmp, this]
    · cases h
  · rename_i p q
    cases hx
    cases hy
    have hg : (eqGuard op t X Y (.string p) (.string q)).run P w = .ok () w := by unfold eqGuard; split <;> rfl
    refine ⟨v, by simp only [Sem.run_bind, hg, Result.andThen_ok]; exact strOp_run h t w, ?_⟩
    cases op <;> simp only [strOp, Option.some.injEq, reduceCtorEq] at h <;> first
      | (subst h; exact .bool _)
      | (cases (bifS h).2; exact .string _)
  · cases h

end Go.Rx
