/- Contracts of functions of the given program, over the abstract machine. -/
import Derived.Test.YtabhplelhjcdiaaRh1
namespace Go.Rx
variable {M : Mach}
set_option maxRecDepth 4000
set_option linter.unusedSimpArgs false
set_option linter.unusedVariables false

/-! ### Rows of numbers -/
def cell1 (x : Int) : List Value := [.int .i64 x]
def IV (h : Heap) (v : Value) (l : List Int) : Prop := SlN 3 1 h v (l.map cell1)
def IO (h : Heap) (v : Value) (l : List Int) : Prop := OwnN 3 1 h v (l.map cell1)
theorem IO.v {h : Heap} {v : Value} {l : List Int} (ho : IO h v l) : IV h v l := OwnN.sl ho
theorem IV.gp {h h' : Heap} {v : Value} {l : List Int} (hs : IV h v l) (g : GrowP h h') : IV h' v l := SlN.gp hs g
theorem IO.gp {h h' : Heap} {v : Value} {l : List Int} (hs : IO h v l) (g : GrowP h h') : IO h' v l := OwnN.gp hs g
theorem IV.chg {h h' : Heap} {w : Nat} {v : Value} {l : List Int} (hs : IV h v l) (c : Chg w h h') (hne : bno v ≠ w ∨ bno v = 0) : IV h' v l := SlN.chg hs c hne
theorem cell1_getD {l : List Int} {i : Nat} (hi : i < l.length) : (l.map cell1).getD i [] = [.int .i64 (l.getD i 0)] := by
  rw [getD_map (d' := 0) hi]; rfl
theorem elQ_load {sz : Nat} {h : Heap} {v : Value} {i : Nat} {x : Value} (hl : iLoadn (elQ sz v i) 1 h = some (.agg ⟨[x]⟩, h)) : iLoad (elQ sz v i) h = some (x, h) := by
  cases v with
  | slice a n c =>
    cases a with
    | none => cases hl
    | some a =>
      have hl : aggR h (rdCells h ⟨a.block, a.off + i * sz, none⟩ 1) = some (.agg ⟨[x]⟩, h) := hl
      show one h (rdCells h ⟨a.block, a.off + i * sz, none⟩ 1) = some (x, h)
      cases hr : rdCells h ⟨a.block, a.off + i * sz, none⟩ 1 with
      | none => rw [hr] at hl; cases hl
      | some l =>
        rw [hr] at hl
        have : l = [x] := by
          have h1 := (Prod.mk.inj (Option.some.inj hl)).1
          injection h1 with h2
          exact congrArg Array.toList h2
        rw [this]; rfl
  | _ => cases hl
theorem IV.r {h : Heap} {v : Value} {l : List Int} (hs : IV h v l) : (∀ h', iLens v h' = some (.int .i64 l.length, h')) ∧ (∀ h' (k : IntKind) (i : Int), 0 ≤ i → i < l.length → iIxs 1 v (.int k i) h' = some (elQ 1 v i.toNat, h')) ∧ (∀ i : Nat, i < l.length → iLoad (elQ 1 v i) h = some (.int .i64 (l.getD i 0), h)) := by
  obtain ⟨h1, h2, h3⟩ := SlN.r hs
  simp only [List.length_map] at h1 h2 h3
  refine ⟨h1, h2, fun i hi => elQ_load ?_⟩
  rw [h3 i hi, cell1_getD hi]
theorem cell1_ones {l : List Int} : ∀ c ∈ l.map cell1, ∀ x ∈ c, isAggV x = false := by
  intro c hc x hx
  obtain ⟨y, _, rfl⟩ := List.mem_map.1 hc
  rw [cell1, List.mem_singleton] at hx
  subst hx; rfl
theorem IO.nil {h : Heap} (h1 : 1 ≤ h.next) : IO h (.slice none 0 0) [] := ⟨by show 0 < _; omega, by simp, .inl ⟨rfl, rfl⟩⟩
theorem IO.one {h : Heap} {x : Int} (h1 : 1 ≤ h.next) : IO (h.new (.cells [.int .i64 x] 3 true)) (.slice (some ⟨h.next, 0, none⟩) 1 1) [x] := own_one h1 rfl
/-- append(xs, x) -/
theorem WI_appI1 {h : Heap} {v : Value} {l : List Int} {x : Int} (h1 : 1 ≤ h.next) (ho : IO h v l) (hb : l.length ≤ 1000000000) {d : Option Nat} {gl : List GI} {e : Env} {K : KB}
    (hk : ∀ v' h', IO h' v' (l ++ [x]) → Chg (bno v) h h' → (bno v' = bno v ∨ h.next ≤ bno v') → WI M (some (v', h')) d gl e K) :
    WI M (appV (h.new (.cells [.int .i64 x] 3 true)) 3 1 8 v (.slice (some ⟨h.next, 0, none⟩) 1 1)) d gl e K := by
  refine WI_appn1 (c := cell1 x) h1 (by omega) ho rfl (by simp [cell1, isAggV]) (by simp; omega) ?_
  intro v' h' o g b
  refine hk v' h' ?_ g b
  unfold IO
  simpa using o
/-- append(xs, ys...) -/
theorem WI_appI {h : Heap} {v y : Value} {l k : List Int} (h1 : 1 ≤ h.next) (ho : IO h v l) (hy : IV h y k) (hb : l.length + k.length ≤ 1000000000) {d : Option Nat} {gl : List GI} {e : Env} {K : KB}
    (hk : ∀ v' h', IO h' v' (l ++ k) → Chg (bno v) h h' → (bno v' = bno v ∨ h.next ≤ bno v') → WI M (some (v', h')) d gl e K) : WI M (appV h 3 1 8 v y) d gl e K := by
  refine WI_appn h1 (by omega) ho hy cell1_ones (by simp; omega) ?_
  intro v' h' o g b
  refine hk v' h' ?_ g b
  unfold IO
  simpa using o
/-- xs[1:] -/
def tlQ : Value → Value
  | .slice (some a) n c => .slice (some ⟨a.block, a.off + 1, a.spot⟩) (n - 1) (c - 1)
  | v => v
theorem tlQ_bno {v : Value} : bno (tlQ v) = bno v := by
  cases v with
  | slice a n c => cases a <;> rfl
  | _ => rfl
theorem IV.tl {h : Heap} {v : Value} {x : Int} {l : List Int} (hs : IV h v (x :: l)) {k : IntKind} : sliceV h 3 1 v (some (.int k 1)) none none = some (tlQ v) ∧ IV h (tlQ v) l := by
  obtain ⟨hb, hl, ⟨h1, h2⟩ | ⟨b, off, sp, c, cs, e, rw', rfl, hb1, h3, h4, h5, h6⟩⟩ := hs
  · simp at h2
  · simp only [List.length_map, List.length_cons] at h5 h6 ⊢
    constructor
    · unfold sliceV
      simp only [bounds, bound_none, bound_some]
      rw [ix_ok (by omega) (by simp; omega)]
      have hse : sameE h 3 ⟨b, off, sp⟩ = true := by
        unfold sameE
        cases sp with
        | some _ => rfl
        | none => simp only [h3, h4 rfl, beq_t]
      simp only [ble_t (show (1 : Int).toNat ≤ l.length + 1 by simp), ble_t (show l.length + 1 ≤ c by omega), hse, Bool.and_self, cond_true]
      rfl
    · refine ⟨by rw [tlQ_bno]; exact hb, fun y hy => hl y (by simp at hy ⊢; exact .inr hy), .inr ⟨b, off + 1, sp, c - 1, cs, e, rw', ?_, hb1, h3, h4, by simp; omega, ?_⟩⟩
      · simp [tlQ]
      · have := cut_cut h6 (o := 1) (m := l.length) (by omega)
        simp only [List.length_map, Nat.mul_one]
        rw [this]
        congr 1
        simp only [List.map_cons, List.flatten_cons, cell1, List.cons_append, List.nil_append, List.drop_succ_cons, List.drop_zero]
        rw [List.take_of_length_le]
        rw [flatN (sz := 1) (fun y hy => hl y (by simp at hy ⊢; exact .inr hy))]
        simp
theorem sameA_ref {v : Value} {h : Heap} {t : TypeId} {sz : Nat} {css : List (List Value)} (hs : SlN t sz h v css) : sameA v v = true := by
  obtain ⟨_, _, ⟨rfl, _⟩ | ⟨b, off, sp, c, cs, e, rw', rfl, _⟩⟩ := hs
  · rfl
  · show (Nat.beq b b && Nat.beq off off && sp == sp && Nat.beq css.length css.length && Nat.beq c c) = true
    simp [beq_t]

/-! ### sets.Has -/
def hasS (s : List Int) (c : Nat) : Bool := decide (s.getD (c / 64) 0 / 2 ^ (c % 64) % 2 = 1)
theorem binV_and1 {x : Int} (h0 : 0 ≤ x) (h1 : x < 18446744073709551616) : binV .and (.int .u64 x) (.int .u64 1) = some (.int .u64 (x % 2)) := by
  obtain ⟨a, rfl⟩ := Int.eq_ofNat_of_zero_le h0
  have ha : a < 18446744073709551616 := by omega
  show some (bitsI .u64 Nat.land (· &&& ·) (Int.ofNat a) 1) = _
  have hf : fitsK .u64 (Int.ofNat a) = true := by
    show Nat.blt a 18446744073709551616 = true
    exact Nat.ble_eq_true_of_le ha
  unfold bitsI
  rw [hf]
  show some (Value.int .u64 (Int.ofNat (Nat.land a 1))) = _
  have : Nat.land a 1 = a % 2 := Nat.and_one_is_mod a
  rw [this]
  rfl
theorem has_ok (hO : M.O 75 = none) (hF : M.F 75 = some A75) {s : List Int} {c : Nat} {h : Heap} {K : KF} (hl : s.length = 4) (hs : ∀ x ∈ s, 0 ≤ x ∧ x < 18446744073709551616) (hc : c < 256)
  (hk : ∀ h', GrowP h h' → K (.bool (hasS s c)) h') : WF M 75 [.agg ⟨s.map (.int .u64)⟩, .int .u8 c] h K := by
  rw [WF_eqT 5 hO hF]
  have hl' : (s.map (Value.int .u64)).length = 4 := by rw [List.length_map]; exact hl
  have hq : c / 64 < s.length := by omega
  have hgc : s.getD (c / 64) 0 ∈ s := by
    rw [List.getD_eq_getElem?_getD, List.getElem?_eq_getElem hq]
    exact List.getElem_mem hq
  have hgb := hs _ hgc
  have e1 : ((c : Int).tdiv 64) = ((c / 64 : Nat) : Int) := by rw [Int.tdiv_eq_ediv_of_nonneg (by omega)]; omega
  have e2 : ((c : Int).tmod 64) = ((c % 64 : Nat) : Int) := by rw [Int.tmod_eq_emod_of_nonneg (by omega)]; omega
  have e3 : (s.map (Value.int .u64))[c / 64]? = some (.int .u64 (s.getD (c / 64) 0)) := ints_get hq
  have e6 : binV .shr (.int .u64 (s.getD (c / 64) 0)) (.int .u8 ((c % 64 : Nat) : Int)) = some (.int .u64 (s.getD (c / 64) 0 / (2 : Int) ^ (c % 64))) := by
    rw [binV_shr0 hgb.1 (by omega) (by show ((c % 64 : Nat) : Int) ≤ 64; omega), Int.toNat_natCast]
  have e4 : 0 ≤ s.getD (c / 64) 0 / (2 : Int) ^ (c % 64) := Int.ediv_nonneg hgb.1 (Int.le_of_lt (Int.pow_pos (by omega)))
  have e5 : s.getD (c / 64) 0 / (2 : Int) ^ (c % 64) < 18446744073709551616 := by
    refine Int.lt_of_le_of_lt (Int.ediv_le_self _ hgb.1) hgb.2
  simp (maxSteps := 2000000) (disch := first | omega | assumption | (simp only [oneC_int, oneC_bool, oneC_str, oneC_ptr, oneC_sl, oneC_map]; done) | (simp only [List.length_cons, List.length_nil, List.length_set, List.length_map, List.length_replicate, List.length_append, List.length_take, List.length_drop, Int.toNat_natCast] <;> omega) | fail) only [Go.Rx.vi, Go.Rx.vb, Go.Rx.vstr, rxc, rxo, Nat.reduceLeDiff, List.getElem?_cons_zero, List.getElem?_cons_succ, List.length_cons, List.length_nil, List.set_cons_zero, List.set_cons_succ, ↓reduceIte, Bool.not_true, Bool.not_false, true_and, and_true, not_true_eq_false, not_false_eq_true, decide_true, decide_false, Nat.reduceEqDiff, Nat.reduceAdd, Nat.reduceMul, Nat.reducePow, Int.reduceToNat, Int.reducePow, Nat.zero_add, Nat.mul_one, Int.toNat_natCast, A75, R75_0, hl']
  obtain ⟨h2, e9, g2, n2, b2⟩ := boxed h (s.map (.int .u64)) 45
  rw [e9]
  simp (maxSteps := 2000000) (disch := first | omega | assumption | (simp only [oneC_int, oneC_bool, oneC_str, oneC_ptr, oneC_sl, oneC_map]; done) | (simp only [List.length_cons, List.length_nil, List.length_set, List.length_map, List.length_replicate, List.length_append, List.length_take, List.length_drop, Int.toNat_natCast] <;> omega) | fail) only [Go.Rx.vi, Go.Rx.vb, Go.Rx.vstr, rxc, rxo, Nat.reduceLeDiff, List.getElem?_cons_zero, List.getElem?_cons_succ, List.length_cons, List.length_nil, List.set_cons_zero, List.set_cons_succ, ↓reduceIte, Bool.not_true, Bool.not_false, true_and, and_true, not_true_eq_false, not_false_eq_true, decide_true, decide_false, Nat.reduceEqDiff, Nat.reduceAdd, Nat.reduceMul, Nat.reducePow, Int.reduceToNat, Int.reducePow, Nat.zero_add, Nat.mul_one, Int.toNat_natCast, R75_1, b2, e1, e2, e3, e6, binV_and1 e4 e5]
  exact hk _ g2

/-! ### slices.BinarySearch -/
def Rise (l : List Int) : Prop := l.Pairwise (· < ·)
theorem nan2_ok (hO8 : M.O 128 = none) (hF8 : M.F 128 = some A128) {x : Int} {h : Heap} {K : KF} (hk : K (.bool false) h) : WF M 128 [.int .i64 x] h K := by
  rw [WF_eqT 3 hO8 hF8]
  simp (maxSteps := 2000000) (disch := first | omega | assumption | (simp only [oneC_int, oneC_bool, oneC_str, oneC_ptr, oneC_sl, oneC_map]; done) | (simp only [List.length_cons, List.length_nil, List.length_set, List.length_map, List.length_replicate, List.length_append, List.length_take, List.length_drop, Int.toNat_natCast] <;> omega) | fail) only [Go.Rx.vi, Go.Rx.vb, Go.Rx.vstr, rxc, rxo, Nat.reduceLeDiff, List.getElem?_cons_zero, List.getElem?_cons_succ, List.length_cons, List.length_nil, List.set_cons_zero, List.set_cons_succ, ↓reduceIte, Bool.not_true, Bool.not_false, true_and, and_true, not_true_eq_false, not_false_eq_true, decide_true, decide_false, Nat.reduceEqDiff, Nat.reduceAdd, Nat.reduceMul, Nat.reducePow, Int.reduceToNat, Int.reducePow, Nat.zero_add, Nat.mul_one, Int.toNat_natCast, A128, R128_0, R128_1]
  exact hk
theorem less_ok (hO : M.O 113 = none) (hF : M.F 113 = some A113) (hO8 : M.O 128 = none) (hF8 : M.F 128 = some A128) {x y : Int} {h : Heap} {K : KF} (hk : K (.bool (decide (x < y))) h) : WF M 113 [.int .i64 x, .int .i64 y] h K := by
  rw [WF_eqT 5 hO hF]
  simp (maxSteps := 2000000) (disch := first | omega | assumption | (simp only [oneC_int, oneC_bool, oneC_str, oneC_ptr, oneC_sl, oneC_map]; done) | (simp only [List.length_cons, List.length_nil, List.length_set, List.length_map, List.length_replicate, List.length_append, List.length_take, List.length_drop, Int.toNat_natCast] <;> omega) | fail) only [Go.Rx.vi, Go.Rx.vb, Go.Rx.vstr, rxc, rxo, Nat.reduceLeDiff, List.getElem?_cons_zero, List.getElem?_cons_succ, List.length_cons, List.length_nil, List.set_cons_zero, List.set_cons_succ, ↓reduceIte, Bool.not_true, Bool.not_false, true_and, and_true, not_true_eq_false, not_false_eq_true, decide_true, decide_false, Nat.reduceEqDiff, Nat.reduceAdd, Nat.reduceMul, Nat.reducePow, Int.reduceToNat, Int.reducePow, Nat.zero_add, Nat.mul_one, Int.toNat_natCast, A113, R113_0, R113_1]
  refine nan2_ok hO8 hF8 ?_
  simp (maxSteps := 2000000) (disch := first | omega | assumption | (simp only [oneC_int, oneC_bool, oneC_str, oneC_ptr, oneC_sl, oneC_map]; done) | (simp only [List.length_cons, List.length_nil, List.length_set, List.length_map, List.length_replicate, List.length_append, List.length_take, List.length_drop, Int.toNat_natCast] <;> omega) | fail) only [Go.Rx.vi, Go.Rx.vb, Go.Rx.vstr, rxc, rxo, Nat.reduceLeDiff, List.getElem?_cons_zero, List.getElem?_cons_succ, List.length_cons, List.length_nil, List.set_cons_zero, List.set_cons_succ, ↓reduceIte, Bool.not_true, Bool.not_false, true_and, and_true, not_true_eq_false, not_false_eq_true, decide_true, decide_false, Nat.reduceEqDiff, Nat.reduceAdd, Nat.reduceMul, Nat.reducePow, Int.reduceToNat, Int.reducePow, Nat.zero_add, Nat.mul_one, Int.toNat_natCast]
  exact hk
theorem nan_ok (hO : M.O 118 = none) (hF : M.F 118 = some A118) {x : Int} {h : Heap} {K : KF} (hk : K (.bool false) h) : WF M 118 [.int .i64 x] h K := by
  rw [WF_eqT 3 hO hF]
  simp (maxSteps := 2000000) (disch := first | omega | assumption | (simp only [oneC_int, oneC_bool, oneC_str, oneC_ptr, oneC_sl, oneC_map]; done) | (simp only [List.length_cons, List.length_nil, List.length_set, List.length_map, List.length_replicate, List.length_append, List.length_take, List.length_drop, Int.toNat_natCast] <;> omega) | fail) only [Go.Rx.vi, Go.Rx.vb, Go.Rx.vstr, rxc, rxo, Nat.reduceLeDiff, List.getElem?_cons_zero, List.getElem?_cons_succ, List.length_cons, List.length_nil, List.set_cons_zero, List.set_cons_succ, ↓reduceIte, Bool.not_true, Bool.not_false, true_and, and_true, not_true_eq_false, not_false_eq_true, decide_true, decide_false, Nat.reduceEqDiff, Nat.reduceAdd, Nat.reduceMul, Nat.reducePow, Int.reduceToNat, Int.reducePow, Nat.zero_add, Nat.mul_one, Int.toNat_natCast, A118, R118_0, R118_1]
  exact hk
structure BsF (M : Mach) : Prop where
  o102 : M.O 102 = none
  f102 : M.F 102 = some A102
  o113 : M.O 113 = none
  f113 : M.F 113 = some A113
  o118 : M.O 118 = none
  f118 : M.F 118 = some A118
  o128 : M.O 128 = none
  f128 : M.F 128 = some A128
theorem mem_getD {l : List Int} {x : Int} : x ∈ l ↔ ∃ i, i < l.length ∧ l.getD i 0 = x := by
  rw [List.mem_iff_getElem]
  constructor
  · rintro ⟨i, hi, rfl⟩
    exact ⟨i, hi, by simp [hi]⟩
  · rintro ⟨i, hi, rfl⟩
    exact ⟨i, hi, by simp [hi]⟩
theorem Rise.lt {l : List Int} (hr : Rise l) {i j : Nat} (hij : i < j) (hj : j < l.length) : l.getD i 0 < l.getD j 0 := by
  have := List.pairwise_iff_getElem.1 hr i j (by omega) hj hij
  simpa [show i < l.length by omega, hj] using this
theorem bs_ok (m : BsF M) {v : Value} {l : List Int} {x : Int} {h : Heap} {K : KF} (hs : IV h v l) (hr : Rise l) (hlen : l.length ≤ 1000000000)
  (hk : ∀ i, K (.tuple ⟨[.int .i64 i, .bool (decide (x ∈ l))]⟩) h) : WF M 102 [v, .int .i64 x] h K := by
  rw [WF_eqT 10 m.o102 m.f102]
  have r := hs.r
  simp (maxSteps := 2000000) (disch := first | omega | assumption | (simp only [oneC_int, oneC_bool, oneC_str, oneC_ptr, oneC_sl, oneC_map]; done) | (simp only [List.length_cons, List.length_nil, List.length_set, List.length_map, List.length_replicate, List.length_append, List.length_take, List.length_drop, Int.toNat_natCast] <;> omega) | fail) only [Go.Rx.vi, Go.Rx.vb, Go.Rx.vstr, rxc, rxo, Nat.reduceLeDiff, List.getElem?_cons_zero, List.getElem?_cons_succ, List.length_cons, List.length_nil, List.set_cons_zero, List.set_cons_succ, ↓reduceIte, Bool.not_true, Bool.not_false, true_and, and_true, not_true_eq_false, not_false_eq_true, decide_true, decide_false, Nat.reduceEqDiff, Nat.reduceAdd, Nat.reduceMul, Nat.reducePow, Int.reduceToNat, Int.reducePow, Nat.zero_add, Nat.mul_one, Int.toNat_natCast, A102, R102_0, R102_1, R102_2, r]
  refine WC_bloop 10 (fun mm e h' => ∃ (i j : Nat), mm = j - i ∧ i ≤ j ∧ j ≤ l.length ∧ (∀ t, t < i → l.getD t 0 < x) ∧ (∀ t, j ≤ t → t < l.length → x ≤ l.getD t 0) ∧ e.g 0 = v ∧ e.g 1 = .int .i64 x ∧ e.g 6 = .int .i64 l.length ∧ e.g 7 = .int .i64 i ∧ e.g 8 = .int .i64 j ∧ h' = h)
    (fun e h' => ∃ (i : Nat), i ≤ l.length ∧ (∀ t, t < i → l.getD t 0 < x) ∧ (∀ t, i ≤ t → t < l.length → x ≤ l.getD t 0) ∧ e.g 0 = v ∧ e.g 1 = .int .i64 x ∧ e.g 6 = .int .i64 l.length ∧ e.g 7 = .int .i64 i ∧ h' = h) ?_ ?_ ?_
  · refine ⟨_, 0, l.length, rfl, by omega, by omega, fun t ht => by omega, fun t h1 h2 => by omega, ?_, ?_, ?_, ?_, ?_, rfl⟩
    · simp (maxSteps := 2000000) (disch := first | omega | assumption | (simp only [oneC_int, oneC_bool, oneC_str, oneC_ptr, oneC_sl, oneC_map]; done) | (simp only [List.length_cons, List.length_nil, List.length_set, List.length_map, List.length_replicate, List.length_append, List.length_take, List.length_drop, Int.toNat_natCast] <;> omega) | fail) only [Go.Rx.vi, Go.Rx.vb, Go.Rx.vstr, rxc, rxo, Nat.reduceLeDiff, List.getElem?_cons_zero, List.getElem?_cons_succ, List.length_cons, List.length_nil, List.set_cons_zero, List.set_cons_succ, ↓reduceIte, Bool.not_true, Bool.not_false, true_and, and_true, not_true_eq_false, not_false_eq_true, decide_true, decide_false, Nat.reduceEqDiff, Nat.reduceAdd, Nat.reduceMul, Nat.reducePow, Int.reduceToNat, Int.reducePow, Nat.zero_add, Nat.mul_one, Int.toNat_natCast]
    · simp (maxSteps := 2000000) (disch := first | omega | assumption | (simp only [oneC_int, oneC_bool, oneC_str, oneC_ptr, oneC_sl, oneC_map]; done) | (simp only [List.length_cons, List.length_nil, List.length_set, List.length_map, List.length_replicate, List.length_append, List.length_take, List.length_drop, Int.toNat_natCast] <;> omega) | fail) only [Go.Rx.vi, Go.Rx.vb, Go.Rx.vstr, rxc, rxo, Nat.reduceLeDiff, List.getElem?_cons_zero, List.getElem?_cons_succ, List.length_cons, List.length_nil, List.set_cons_zero, List.set_cons_succ, ↓reduceIte, Bool.not_true, Bool.not_false, true_and, and_true, not_true_eq_false, not_false_eq_true, decide_true, decide_false, Nat.reduceEqDiff, Nat.reduceAdd, Nat.reduceMul, Nat.reducePow, Int.reduceToNat, Int.reducePow, Nat.zero_add, Nat.mul_one, Int.toNat_natCast]
    · simp (maxSteps := 2000000) (disch := first | omega | assumption | (simp only [oneC_int, oneC_bool, oneC_str, oneC_ptr, oneC_sl, oneC_map]; done) | (simp only [List.length_cons, List.length_nil, List.length_set, List.length_map, List.length_replicate, List.length_append, List.length_take, List.length_drop, Int.toNat_natCast] <;> omega) | fail) only [Go.Rx.vi, Go.Rx.vb, Go.Rx.vstr, rxc, rxo, Nat.reduceLeDiff, List.getElem?_cons_zero, List.getElem?_cons_succ, List.length_cons, List.length_nil, List.set_cons_zero, List.set_cons_succ, ↓reduceIte, Bool.not_true, Bool.not_false, true_and, and_true, not_true_eq_false, not_false_eq_true, decide_true, decide_false, Nat.reduceEqDiff, Nat.reduceAdd, Nat.reduceMul, Nat.reducePow, Int.reduceToNat, Int.reducePow, Nat.zero_add, Nat.mul_one, Int.toNat_natCast]
    · simp (maxSteps := 2000000) (disch := first | omega | assumption | (simp only [oneC_int, oneC_bool, oneC_str, oneC_ptr, oneC_sl, oneC_map]; done) | (simp only [List.length_cons, List.length_nil, List.length_set, List.length_map, List.length_replicate, List.length_append, List.length_take, List.length_drop, Int.toNat_natCast] <;> omega) | fail) only [Go.Rx.vi, Go.Rx.vb, Go.Rx.vstr, rxc, rxo, Nat.reduceLeDiff, List.getElem?_cons_zero, List.getElem?_cons_succ, List.length_cons, List.length_nil, List.set_cons_zero, List.set_cons_succ, ↓reduceIte, Bool.not_true, Bool.not_false, true_and, and_true, not_true_eq_false, not_false_eq_true, decide_true, decide_false, Nat.reduceEqDiff, Nat.reduceAdd, Nat.reduceMul, Nat.reducePow, Int.reduceToNat, Int.reducePow, Nat.zero_add, Nat.mul_one, Int.toNat_natCast]; rfl
    · simp (maxSteps := 2000000) (disch := first | omega | assumption | (simp only [oneC_int, oneC_bool, oneC_str, oneC_ptr, oneC_sl, oneC_map]; done) | (simp only [List.length_cons, List.length_nil, List.length_set, List.length_map, List.length_replicate, List.length_append, List.length_take, List.length_drop, Int.toNat_natCast] <;> omega) | fail) only [Go.Rx.vi, Go.Rx.vb, Go.Rx.vstr, rxc, rxo, Nat.reduceLeDiff, List.getElem?_cons_zero, List.getElem?_cons_succ, List.length_cons, List.length_nil, List.set_cons_zero, List.set_cons_succ, ↓reduceIte, Bool.not_true, Bool.not_false, true_and, and_true, not_true_eq_false, not_false_eq_true, decide_true, decide_false, Nat.reduceEqDiff, Nat.reduceAdd, Nat.reduceMul, Nat.reducePow, Int.reduceToNat, Int.reducePow, Nat.zero_add, Nat.mul_one, Int.toNat_natCast]
  · rintro mm e h' ⟨i, j, rfl, hij, hj, hlo, hhi, e0, e1, e6, e7, e8, rfl⟩
    simp (maxSteps := 2000000) (disch := first | omega | assumption | (simp only [oneC_int, oneC_bool, oneC_str, oneC_ptr, oneC_sl, oneC_map]; done) | (simp only [List.length_cons, List.length_nil, List.length_set, List.length_map, List.length_replicate, List.length_append, List.length_take, List.length_drop, Int.toNat_natCast] <;> omega) | fail) only [Go.Rx.vi, Go.Rx.vb, Go.Rx.vstr, rxc, rxo, Nat.reduceLeDiff, List.getElem?_cons_zero, List.getElem?_cons_succ, List.length_cons, List.length_nil, List.set_cons_zero, List.set_cons_succ, ↓reduceIte, Bool.not_true, Bool.not_false, true_and, and_true, not_true_eq_false, not_false_eq_true, decide_true, decide_false, Nat.reduceEqDiff, Nat.reduceAdd, Nat.reduceMul, Nat.reducePow, Int.reduceToNat, Int.reducePow, Nat.zero_add, Nat.mul_one, Int.toNat_natCast, B102_0, R102_3, e7, e8]
    refine WCond_dec (fun hc => ?_) (fun hc => ?_)
    · have e9 : binV .shr (.int .u64 ((i : Int) + j)) (.int .u64 1) = some (.int .u64 (((i + j) / 2 : Nat) : Int)) := by
        rw [binV_shr0 (by omega) (by omega) (by show (1 : Int) ≤ 64; omega)]
        congr 2
      have hm1 : (i + j) / 2 < l.length := by omega
      simp (maxSteps := 2000000) (disch := first | omega | assumption | (simp only [oneC_int, oneC_bool, oneC_str, oneC_ptr, oneC_sl, oneC_map]; done) | (simp only [List.length_cons, List.length_nil, List.length_set, List.length_map, List.length_replicate, List.length_append, List.length_take, List.length_drop, Int.toNat_natCast] <;> omega) | fail) only [Go.Rx.vi, Go.Rx.vb, Go.Rx.vstr, rxc, rxo, Nat.reduceLeDiff, List.getElem?_cons_zero, List.getElem?_cons_succ, List.length_cons, List.length_nil, List.set_cons_zero, List.set_cons_succ, ↓reduceIte, Bool.not_true, Bool.not_false, true_and, and_true, not_true_eq_false, not_false_eq_true, decide_true, decide_false, Nat.reduceEqDiff, Nat.reduceAdd, Nat.reduceMul, Nat.reducePow, Int.reduceToNat, Int.reducePow, Nat.zero_add, Nat.mul_one, Int.toNat_natCast, R102_4, e7, e8, e9]
      simp (maxSteps := 2000000) (disch := first | omega | assumption | (simp only [oneC_int, oneC_bool, oneC_str, oneC_ptr, oneC_sl, oneC_map]; done) | (simp only [List.length_cons, List.length_nil, List.length_set, List.length_map, List.length_replicate, List.length_append, List.length_take, List.length_drop, Int.toNat_natCast] <;> omega) | fail) only [Go.Rx.vi, Go.Rx.vb, Go.Rx.vstr, rxc, rxo, Nat.reduceLeDiff, List.getElem?_cons_zero, List.getElem?_cons_succ, List.length_cons, List.length_nil, List.set_cons_zero, List.set_cons_succ, ↓reduceIte, Bool.not_true, Bool.not_false, true_and, and_true, not_true_eq_false, not_false_eq_true, decide_true, decide_false, Nat.reduceEqDiff, Nat.reduceAdd, Nat.reduceMul, Nat.reducePow, Int.reduceToNat, Int.reducePow, Nat.zero_add, Nat.mul_one, Int.toNat_natCast, R102_5, e0, e1, r]
      refine less_ok m.o113 m.f113 m.o128 m.f128 ?_
      simp (maxSteps := 2000000) (disch := first | omega | assumption | (simp only [oneC_int, oneC_bool, oneC_str, oneC_ptr, oneC_sl, oneC_map]; done) | (simp only [List.length_cons, List.length_nil, List.length_set, List.length_map, List.length_replicate, List.length_append, List.length_take, List.length_drop, Int.toNat_natCast] <;> omega) | fail) only [Go.Rx.vi, Go.Rx.vb, Go.Rx.vstr, rxc, rxo, Nat.reduceLeDiff, List.getElem?_cons_zero, List.getElem?_cons_succ, List.length_cons, List.length_nil, List.set_cons_zero, List.set_cons_succ, ↓reduceIte, Bool.not_true, Bool.not_false, true_and, and_true, not_true_eq_false, not_false_eq_true, decide_true, decide_false, Nat.reduceEqDiff, Nat.reduceAdd, Nat.reduceMul, Nat.reducePow, Int.reduceToNat, Int.reducePow, Nat.zero_add, Nat.mul_one, Int.toNat_natCast]
      refine WCond_dec (fun hx => ?_) (fun hx => ?_)
      · simp (maxSteps := 2000000) (disch := first | omega | assumption | (simp only [oneC_int, oneC_bool, oneC_str, oneC_ptr, oneC_sl, oneC_map]; done) | (simp only [List.length_cons, List.length_nil, List.length_set, List.length_map, List.length_replicate, List.length_append, List.length_take, List.length_drop, Int.toNat_natCast] <;> omega) | fail) only [Go.Rx.vi, Go.Rx.vb, Go.Rx.vstr, rxc, rxo, Nat.reduceLeDiff, List.getElem?_cons_zero, List.getElem?_cons_succ, List.length_cons, List.length_nil, List.set_cons_zero, List.set_cons_succ, ↓reduceIte, Bool.not_true, Bool.not_false, true_and, and_true, not_true_eq_false, not_false_eq_true, decide_true, decide_false, Nat.reduceEqDiff, Nat.reduceAdd, Nat.reduceMul, Nat.reducePow, Int.reduceToNat, Int.reducePow, Nat.zero_add, Nat.mul_one, Int.toNat_natCast, R102_6, e0, e1, e6, e7, e8]
        refine ⟨_, ?_, (i + j) / 2 + 1, j, rfl, by omega, by omega, ?_, hhi, ?_, rfl⟩
        · omega
        · intro t ht
          by_cases h1 : t = (i + j) / 2
          · subst h1; exact hx
          · have := hr.lt (i := t) (j := (i + j) / 2) (by omega) (by omega)
            omega
        · simp
      · simp (maxSteps := 2000000) (disch := first | omega | assumption | (simp only [oneC_int, oneC_bool, oneC_str, oneC_ptr, oneC_sl, oneC_map]; done) | (simp only [List.length_cons, List.length_nil, List.length_set, List.length_map, List.length_replicate, List.length_append, List.length_take, List.length_drop, Int.toNat_natCast] <;> omega) | fail) only [Go.Rx.vi, Go.Rx.vb, Go.Rx.vstr, rxc, rxo, Nat.reduceLeDiff, List.getElem?_cons_zero, List.getElem?_cons_succ, List.length_cons, List.length_nil, List.set_cons_zero, List.set_cons_succ, ↓reduceIte, Bool.not_true, Bool.not_false, true_and, and_true, not_true_eq_false, not_false_eq_true, decide_true, decide_false, Nat.reduceEqDiff, Nat.reduceAdd, Nat.reduceMul, Nat.reducePow, Int.reduceToNat, Int.reducePow, Nat.zero_add, Nat.mul_one, Int.toNat_natCast, R102_7, e0, e1, e6, e7, e8]
        refine ⟨_, ?_, i, (i + j) / 2, rfl, by omega, by omega, hlo, ?_, rfl, rfl⟩
        · omega
        · intro t h1 h2
          by_cases h3 : t = (i + j) / 2
          · subst h3; omega
          · have := hr.lt (i := (i + j) / 2) (j := t) (by omega) (by omega)
            omega
    · simp (maxSteps := 2000000) (disch := first | omega | assumption | (simp only [oneC_int, oneC_bool, oneC_str, oneC_ptr, oneC_sl, oneC_map]; done) | (simp only [List.length_cons, List.length_nil, List.length_set, List.length_map, List.length_replicate, List.length_append, List.length_take, List.length_drop, Int.toNat_natCast] <;> omega) | fail) only [Go.Rx.vi, Go.Rx.vb, Go.Rx.vstr, rxc, rxo, Nat.reduceLeDiff, List.getElem?_cons_zero, List.getElem?_cons_succ, List.length_cons, List.length_nil, List.set_cons_zero, List.set_cons_succ, ↓reduceIte, Bool.not_true, Bool.not_false, true_and, and_true, not_true_eq_false, not_false_eq_true, decide_true, decide_false, Nat.reduceEqDiff, Nat.reduceAdd, Nat.reduceMul, Nat.reducePow, Int.reduceToNat, Int.reducePow, Nat.zero_add, Nat.mul_one, Int.toNat_natCast, e0, e1, e6, e7]
      exact ⟨i, by omega, hlo, fun t h1 h2 => hhi t (by omega) h2, rfl⟩
  · rintro e h' ⟨i, hi, hlo, hhi, e0, e1, e6, e7, rfl⟩
    simp (maxSteps := 2000000) (disch := first | omega | assumption | (simp only [oneC_int, oneC_bool, oneC_str, oneC_ptr, oneC_sl, oneC_map]; done) | (simp only [List.length_cons, List.length_nil, List.length_set, List.length_map, List.length_replicate, List.length_append, List.length_take, List.length_drop, Int.toNat_natCast] <;> omega) | fail) only [Go.Rx.vi, Go.Rx.vb, Go.Rx.vstr, rxc, rxo, Nat.reduceLeDiff, List.getElem?_cons_zero, List.getElem?_cons_succ, List.length_cons, List.length_nil, List.set_cons_zero, List.set_cons_succ, ↓reduceIte, Bool.not_true, Bool.not_false, true_and, and_true, not_true_eq_false, not_false_eq_true, decide_true, decide_false, Nat.reduceEqDiff, Nat.reduceAdd, Nat.reduceMul, Nat.reducePow, Int.reduceToNat, Int.reducePow, Nat.zero_add, Nat.mul_one, Int.toNat_natCast, R102_8, e0, e1, e6, e7]
    by_cases hil : (i : Int) < l.length
    · simp only [hil, decide_true]
      have hil' : i < l.length := by omega
      simp (maxSteps := 2000000) (disch := first | omega | assumption | (simp only [oneC_int, oneC_bool, oneC_str, oneC_ptr, oneC_sl, oneC_map]; done) | (simp only [List.length_cons, List.length_nil, List.length_set, List.length_map, List.length_replicate, List.length_append, List.length_take, List.length_drop, Int.toNat_natCast] <;> omega) | fail) only [Go.Rx.vi, Go.Rx.vb, Go.Rx.vstr, rxc, rxo, Nat.reduceLeDiff, List.getElem?_cons_zero, List.getElem?_cons_succ, List.length_cons, List.length_nil, List.set_cons_zero, List.set_cons_succ, ↓reduceIte, Bool.not_true, Bool.not_false, true_and, and_true, not_true_eq_false, not_false_eq_true, decide_true, decide_false, Nat.reduceEqDiff, Nat.reduceAdd, Nat.reduceMul, Nat.reducePow, Int.reduceToNat, Int.reducePow, Nat.zero_add, Nat.mul_one, Int.toNat_natCast, e0, e1, e6, e7, r]
      by_cases hx : l.getD i 0 = x
      · simp only [hx, decide_true]
        simp (maxSteps := 2000000) (disch := first | omega | assumption | (simp only [oneC_int, oneC_bool, oneC_str, oneC_ptr, oneC_sl, oneC_map]; done) | (simp only [List.length_cons, List.length_nil, List.length_set, List.length_map, List.length_replicate, List.length_append, List.length_take, List.length_drop, Int.toNat_natCast] <;> omega) | fail) only [Go.Rx.vi, Go.Rx.vb, Go.Rx.vstr, rxc, rxo, Nat.reduceLeDiff, List.getElem?_cons_zero, List.getElem?_cons_succ, List.length_cons, List.length_nil, List.set_cons_zero, List.set_cons_succ, ↓reduceIte, Bool.not_true, Bool.not_false, true_and, and_true, not_true_eq_false, not_false_eq_true, decide_true, decide_false, Nat.reduceEqDiff, Nat.reduceAdd, Nat.reduceMul, Nat.reducePow, Int.reduceToNat, Int.reducePow, Nat.zero_add, Nat.mul_one, Int.toNat_natCast]
        have hmem : x ∈ l := mem_getD.2 ⟨i, hil', hx⟩
        have := hk i
        rw [decide_eq_true hmem] at this
        exact this
      · simp only [hx, decide_false]
        simp (maxSteps := 2000000) (disch := first | omega | assumption | (simp only [oneC_int, oneC_bool, oneC_str, oneC_ptr, oneC_sl, oneC_map]; done) | (simp only [List.length_cons, List.length_nil, List.length_set, List.length_map, List.length_replicate, List.length_append, List.length_take, List.length_drop, Int.toNat_natCast] <;> omega) | fail) only [Go.Rx.vi, Go.Rx.vb, Go.Rx.vstr, rxc, rxo, Nat.reduceLeDiff, List.getElem?_cons_zero, List.getElem?_cons_succ, List.length_cons, List.length_nil, List.set_cons_zero, List.set_cons_succ, ↓reduceIte, Bool.not_true, Bool.not_false, true_and, and_true, not_true_eq_false, not_false_eq_true, decide_true, decide_false, Nat.reduceEqDiff, Nat.reduceAdd, Nat.reduceMul, Nat.reducePow, Int.reduceToNat, Int.reducePow, Nat.zero_add, Nat.mul_one, Int.toNat_natCast, e0, e7, r]
        refine nan_ok m.o118 m.f118 ?_
        simp (maxSteps := 2000000) (disch := first | omega | assumption | (simp only [oneC_int, oneC_bool, oneC_str, oneC_ptr, oneC_sl, oneC_map]; done) | (simp only [List.length_cons, List.length_nil, List.length_set, List.length_map, List.length_replicate, List.length_append, List.length_take, List.length_drop, Int.toNat_natCast] <;> omega) | fail) only [Go.Rx.vi, Go.Rx.vb, Go.Rx.vstr, rxc, rxo, Nat.reduceLeDiff, List.getElem?_cons_zero, List.getElem?_cons_succ, List.length_cons, List.length_nil, List.set_cons_zero, List.set_cons_succ, ↓reduceIte, Bool.not_true, Bool.not_false, true_and, and_true, not_true_eq_false, not_false_eq_true, decide_true, decide_false, Nat.reduceEqDiff, Nat.reduceAdd, Nat.reduceMul, Nat.reducePow, Int.reduceToNat, Int.reducePow, Nat.zero_add, Nat.mul_one, Int.toNat_natCast]
        have hmem : ¬ x ∈ l := by
          intro hmx
          obtain ⟨t, ht, rfl⟩ := mem_getD.1 hmx
          by_cases h1 : t < i
          · have := hlo t h1; omega
          · by_cases h2 : t = i
            · subst h2; exact hx rfl
            · have := hr.lt (i := i) (j := t) (by omega) ht
              have := hhi i (by omega) hil'
              omega
        have := hk i
        rw [decide_eq_false hmem] at this
        exact this
    · simp only [hil, decide_false]
      simp (maxSteps := 2000000) (disch := first | omega | assumption | (simp only [oneC_int, oneC_bool, oneC_str, oneC_ptr, oneC_sl, oneC_map]; done) | (simp only [List.length_cons, List.length_nil, List.length_set, List.length_map, List.length_replicate, List.length_append, List.length_take, List.length_drop, Int.toNat_natCast] <;> omega) | fail) only [Go.Rx.vi, Go.Rx.vb, Go.Rx.vstr, rxc, rxo, Nat.reduceLeDiff, List.getElem?_cons_zero, List.getElem?_cons_succ, List.length_cons, List.length_nil, List.set_cons_zero, List.set_cons_succ, ↓reduceIte, Bool.not_true, Bool.not_false, true_and, and_true, not_true_eq_false, not_false_eq_true, decide_true, decide_false, Nat.reduceEqDiff, Nat.reduceAdd, Nat.reduceMul, Nat.reducePow, Int.reduceToNat, Int.reducePow, Nat.zero_add, Nat.mul_one, Int.toNat_natCast]
      have hmem : ¬ x ∈ l := by
        intro hmx
        obtain ⟨t, ht, rfl⟩ := mem_getD.1 hmx
        have := hlo t (by omega)
        omega
      have := hk i
      rw [decide_eq_false hmem] at this
      exact this
end Go.Rx

namespace Go.Rx
variable {M : Mach}
set_option maxRecDepth 4000
set_option linter.unusedSimpArgs false
set_option linter.unusedVariables false

theorem staysAll_cons {ev : Ev} {l : List GI} {e : Env} {hs : List Heap} {p q : Nat} {h1 h2 : Heap} {r : List (Nat × Nat)} (e1 : hs[q]? = some h1) (e2 : hs[q + 1]? = some h2) (s1 : stays ev l e p (some h1) = true) (s2 : stays ev l e p (some h2) = true) (s3 : staysAll ev l e hs r = true) : staysAll ev l e hs ((p, q) :: r) = true := by
  simp only [staysAll, e1, e2, s1, s2, s3, Bool.and_self]
theorem appI_ex {h : Heap} {v y : Value} {l k : List Int} (h1 : 1 ≤ h.next) (ho : IO h v l) (hy : IV h y k) (hb : l.length + k.length ≤ 1000000000) :
    ∃ v' h', appV h 3 1 8 v y = some (v', h') ∧ IO h' v' (l ++ k) ∧ Chg (bno v) h h' ∧ (bno v' = bno v ∨ h.next ≤ bno v') := by
  have hal : allOne (k.map cell1).flatten = true := allOne_of (fun x hx => by
    obtain ⟨c, hc, hxc⟩ := List.mem_flatten.1 hx
    exact cell1_ones c hc x hxc)
  obtain ⟨v', h', e1, e2, e3, e4⟩ := OwnN.app (bytes := 8) h1 (by omega) ho (appNew_sl hy hal) hy.2.1 hal (by simp; omega)
  refine ⟨v', h', e1, ?_, e3, e4⟩
  unfold IO
  simpa using e2
theorem appI1_ex {h : Heap} {v : Value} {l : List Int} {x : Int} (h1 : 1 ≤ h.next) (ho : IO h v l) (hb : l.length ≤ 1000000000 - 1) :
    ∃ v' h', appV (h.new (.cells [.int .i64 x] 3 true)) 3 1 8 v (.slice (some ⟨h.next, 0, none⟩) 1 1) = some (v', h') ∧ IO h' v' (l ++ [x]) ∧ Chg (bno v) h h' ∧ (bno v' = bno v ∨ h.next ≤ bno v') := by
  obtain ⟨v', h', e1, e2, e3, e4⟩ := appI_ex (k := [x]) (by simp) (ho.gp (Grow.refl h).new.p) (IO.one h1).v (by simp; omega)
  refine ⟨v', h', e1, e2, Chg.trans (Chg.refl _ _).new e3, ?_⟩
  rcases e4 with e4 | e4
  · exact .inl e4
  · right; simp at e4; omega

theorem clone_ok (hO : M.O 91 = none) (hF : M.F 91 = some A91) {v : Value} {l : List Int} {h : Heap} {K : KF} (h1 : 1 ≤ h.next) (hs : IV h v l) (hlen : l.length ≤ 1000000000)
  (hk : ∀ v' h', IO h' v' l → GrowP h h' → (bno v' = 0 ∨ h.next ≤ bno v') → K v' h') : WF M 91 [v] h K := by
  rw [WF_eqT 3 hO hF]
  rcases hs.2.2 with ⟨rfl, h2⟩ | ⟨b, off, sp, c, cs, e, rw', rfl, _⟩
  · have : l = [] := by cases l with | nil => rfl | cons _ _ => simp at h2
    subst this
    have e1 : iEqc 3 false (.slice none 0 0) (.slice none 0 0) h = some (.bool true, h) := rfl
    simp (maxSteps := 2000000) (disch := first | omega | assumption | (simp only [oneC_int, oneC_bool, oneC_str, oneC_ptr, oneC_sl, oneC_map]; done) | (simp only [List.length_cons, List.length_nil, List.length_set, List.length_map, List.length_replicate, List.length_append, List.length_take, List.length_drop, Int.toNat_natCast] <;> omega) | fail) only [Go.Rx.vi, Go.Rx.vb, Go.Rx.vstr, rxc, rxo, Nat.reduceLeDiff, List.getElem?_cons_zero, List.getElem?_cons_succ, List.length_cons, List.length_nil, List.set_cons_zero, List.set_cons_succ, ↓reduceIte, Bool.not_true, Bool.not_false, true_and, and_true, not_true_eq_false, not_false_eq_true, decide_true, decide_false, Nat.reduceEqDiff, Nat.reduceAdd, Nat.reduceMul, Nat.reducePow, Int.reduceToNat, Int.reducePow, Nat.zero_add, Nat.mul_one, Int.toNat_natCast, A91, R91_0, R91_1, e1, R91_2]
    exact hk _ _ (.nil h1) (.refl _) (.inl rfl)
  · have e1 : iEqc 3 false (.slice (some ⟨b, off, sp⟩) (l.map cell1).length c) (.slice none 0 0) h = some (.bool false, h) := rfl
    have o1 : IO (h.new (.cells [] 3 true)) (.slice (some ⟨h.next, 0, none⟩) 0 0) [] := ⟨by show h.next < h.next + 1; omega, by simp, .inr ⟨h.next, 0, [], rfl, h1, by rw [at_new_same]; rfl, by simp, by simp⟩⟩
    obtain ⟨v', h', a1, a2, a3, a4⟩ := appI_ex (by simp) o1 (hs.gp (Grow.refl h).new.p) (by simp; omega)
    simp (maxSteps := 2000000) (disch := first | omega | assumption | (simp only [oneC_int, oneC_bool, oneC_str, oneC_ptr, oneC_sl, oneC_map]; done) | (simp only [List.length_cons, List.length_nil, List.length_set, List.length_map, List.length_replicate, List.length_append, List.length_take, List.length_drop, Int.toNat_natCast] <;> omega) | fail) only [Go.Rx.vi, Go.Rx.vb, Go.Rx.vstr, rxc, rxo, Nat.reduceLeDiff, List.getElem?_cons_zero, List.getElem?_cons_succ, List.length_cons, List.length_nil, List.set_cons_zero, List.set_cons_succ, ↓reduceIte, Bool.not_true, Bool.not_false, true_and, and_true, not_true_eq_false, not_false_eq_true, decide_true, decide_false, Nat.reduceEqDiff, Nat.reduceAdd, Nat.reduceMul, Nat.reducePow, Int.reduceToNat, Int.reducePow, Nat.zero_add, Nat.mul_one, Int.toNat_natCast, A91, R91_0, R91_1, e1, R91_3, a1]
    refine hk _ _ a2 ((GrowP.refl h).new.chg a3 (.inr (Nat.le_refl _))) ?_
    rcases a4 with a4 | a4
    · right; rw [a4]; exact Nat.le_refl _
    · right; simp at a4; omega

theorem fresh_ok (hm : M.Mono) (m : BsF M) (hO : M.O 92 = none) (hF : M.F 92 = some A92) {v w : Value} {l k : List Int} {h : Heap} {K : KF} (h1 : 1 ≤ h.next) (hs : IV h v l) (ht : IV h w k) (hr : Rise k) (hlen : l.length ≤ 1000000) (hlen2 : k.length ≤ 1000000)
  (hk : ∀ v' h', IO h' v' (l.filter fun x => decide (¬ x ∈ k)) → GrowP h h' → (bno v' = 0 ∨ h.next ≤ bno v') → K v' h') : WF M 92 [v, w] h K := by
  rw [WF_eqT 10 hO hF]
  have r := hs.r
  simp (maxSteps := 2000000) (disch := first | omega | assumption | (simp only [oneC_int, oneC_bool, oneC_str, oneC_ptr, oneC_sl, oneC_map]; done) | (simp only [List.length_cons, List.length_nil, List.length_set, List.length_map, List.length_replicate, List.length_append, List.length_take, List.length_drop, Int.toNat_natCast] <;> omega) | fail) only [Go.Rx.vi, Go.Rx.vb, Go.Rx.vstr, rxc, rxo, Nat.reduceLeDiff, List.getElem?_cons_zero, List.getElem?_cons_succ, List.length_cons, List.length_nil, List.set_cons_zero, List.set_cons_succ, ↓reduceIte, Bool.not_true, Bool.not_false, true_and, and_true, not_true_eq_false, not_false_eq_true, decide_true, decide_false, Nat.reduceEqDiff, Nat.reduceAdd, Nat.reduceMul, Nat.reducePow, Int.reduceToNat, Int.reducePow, Nat.zero_add, Nat.mul_one, Int.toNat_natCast, A92, R92_0, R92_1, R92_2, r]
  refine WC_bloop 10 (fun mm e h' => ∃ (i : Nat) (u : Value), mm = l.length - i ∧ i ≤ l.length ∧ e.g 1 = w ∧ e.g 5 = u ∧ e.g 10 = v ∧ e.g 11 = .int .i64 l.length ∧ e.g 12 = .int .i64 i ∧ (bno u = 0 ∨ h.next ≤ bno u) ∧ IO h' u ((l.take i).filter fun x => decide (¬ x ∈ k)) ∧ GrowP h h')
    (fun e h' => ∃ (u : Value), e.g 5 = u ∧ (bno u = 0 ∨ h.next ≤ bno u) ∧ IO h' u (l.filter fun x => decide (¬ x ∈ k)) ∧ GrowP h h') ?_ ?_ ?_
  · refine ⟨_, 0, .slice none 0 0, rfl, by omega, ?_, ?_, ?_, ?_, ?_, .inl rfl, by simpa using IO.nil h1, .refl _⟩
    · simp (maxSteps := 2000000) (disch := first | omega | assumption | (simp only [oneC_int, oneC_bool, oneC_str, oneC_ptr, oneC_sl, oneC_map]; done) | (simp only [List.length_cons, List.length_nil, List.length_set, List.length_map, List.length_replicate, List.length_append, List.length_take, List.length_drop, Int.toNat_natCast] <;> omega) | fail) only [Go.Rx.vi, Go.Rx.vb, Go.Rx.vstr, rxc, rxo, Nat.reduceLeDiff, List.getElem?_cons_zero, List.getElem?_cons_succ, List.length_cons, List.length_nil, List.set_cons_zero, List.set_cons_succ, ↓reduceIte, Bool.not_true, Bool.not_false, true_and, and_true, not_true_eq_false, not_false_eq_true, decide_true, decide_false, Nat.reduceEqDiff, Nat.reduceAdd, Nat.reduceMul, Nat.reducePow, Int.reduceToNat, Int.reducePow, Nat.zero_add, Nat.mul_one, Int.toNat_natCast]
    · simp (maxSteps := 2000000) (disch := first | omega | assumption | (simp only [oneC_int, oneC_bool, oneC_str, oneC_ptr, oneC_sl, oneC_map]; done) | (simp only [List.length_cons, List.length_nil, List.length_set, List.length_map, List.length_replicate, List.length_append, List.length_take, List.length_drop, Int.toNat_natCast] <;> omega) | fail) only [Go.Rx.vi, Go.Rx.vb, Go.Rx.vstr, rxc, rxo, Nat.reduceLeDiff, List.getElem?_cons_zero, List.getElem?_cons_succ, List.length_cons, List.length_nil, List.set_cons_zero, List.set_cons_succ, ↓reduceIte, Bool.not_true, Bool.not_false, true_and, and_true, not_true_eq_false, not_false_eq_true, decide_true, decide_false, Nat.reduceEqDiff, Nat.reduceAdd, Nat.reduceMul, Nat.reducePow, Int.reduceToNat, Int.reducePow, Nat.zero_add, Nat.mul_one, Int.toNat_natCast]
    · simp (maxSteps := 2000000) (disch := first | omega | assumption | (simp only [oneC_int, oneC_bool, oneC_str, oneC_ptr, oneC_sl, oneC_map]; done) | (simp only [List.length_cons, List.length_nil, List.length_set, List.length_map, List.length_replicate, List.length_append, List.length_take, List.length_drop, Int.toNat_natCast] <;> omega) | fail) only [Go.Rx.vi, Go.Rx.vb, Go.Rx.vstr, rxc, rxo, Nat.reduceLeDiff, List.getElem?_cons_zero, List.getElem?_cons_succ, List.length_cons, List.length_nil, List.set_cons_zero, List.set_cons_succ, ↓reduceIte, Bool.not_true, Bool.not_false, true_and, and_true, not_true_eq_false, not_false_eq_true, decide_true, decide_false, Nat.reduceEqDiff, Nat.reduceAdd, Nat.reduceMul, Nat.reducePow, Int.reduceToNat, Int.reducePow, Nat.zero_add, Nat.mul_one, Int.toNat_natCast]
    · simp (maxSteps := 2000000) (disch := first | omega | assumption | (simp only [oneC_int, oneC_bool, oneC_str, oneC_ptr, oneC_sl, oneC_map]; done) | (simp only [List.length_cons, List.length_nil, List.length_set, List.length_map, List.length_replicate, List.length_append, List.length_take, List.length_drop, Int.toNat_natCast] <;> omega) | fail) only [Go.Rx.vi, Go.Rx.vb, Go.Rx.vstr, rxc, rxo, Nat.reduceLeDiff, List.getElem?_cons_zero, List.getElem?_cons_succ, List.length_cons, List.length_nil, List.set_cons_zero, List.set_cons_succ, ↓reduceIte, Bool.not_true, Bool.not_false, true_and, and_true, not_true_eq_false, not_false_eq_true, decide_true, decide_false, Nat.reduceEqDiff, Nat.reduceAdd, Nat.reduceMul, Nat.reducePow, Int.reduceToNat, Int.reducePow, Nat.zero_add, Nat.mul_one, Int.toNat_natCast]
    · simp (maxSteps := 2000000) (disch := first | omega | assumption | (simp only [oneC_int, oneC_bool, oneC_str, oneC_ptr, oneC_sl, oneC_map]; done) | (simp only [List.length_cons, List.length_nil, List.length_set, List.length_map, List.length_replicate, List.length_append, List.length_take, List.length_drop, Int.toNat_natCast] <;> omega) | fail) only [Go.Rx.vi, Go.Rx.vb, Go.Rx.vstr, rxc, rxo, Nat.reduceLeDiff, List.getElem?_cons_zero, List.getElem?_cons_succ, List.length_cons, List.length_nil, List.set_cons_zero, List.set_cons_succ, ↓reduceIte, Bool.not_true, Bool.not_false, true_and, and_true, not_true_eq_false, not_false_eq_true, decide_true, decide_false, Nat.reduceEqDiff, Nat.reduceAdd, Nat.reduceMul, Nat.reducePow, Int.reduceToNat, Int.reducePow, Nat.zero_add, Nat.mul_one, Int.toNat_natCast]; rfl
  · rintro mm e h' ⟨i, u, rfl, hi, e1, e5, e10, e11, e12, hb, ho, g⟩
    have r2 := (hs.gp g).r
    have hgn := g.next
    simp (maxSteps := 2000000) (disch := first | omega | assumption | (simp only [oneC_int, oneC_bool, oneC_str, oneC_ptr, oneC_sl, oneC_map]; done) | (simp only [List.length_cons, List.length_nil, List.length_set, List.length_map, List.length_replicate, List.length_append, List.length_take, List.length_drop, Int.toNat_natCast] <;> omega) | fail) only [Go.Rx.vi, Go.Rx.vb, Go.Rx.vstr, rxc, rxo, Nat.reduceLeDiff, List.getElem?_cons_zero, List.getElem?_cons_succ, List.length_cons, List.length_nil, List.set_cons_zero, List.set_cons_succ, ↓reduceIte, Bool.not_true, Bool.not_false, true_and, and_true, not_true_eq_false, not_false_eq_true, decide_true, decide_false, Nat.reduceEqDiff, Nat.reduceAdd, Nat.reduceMul, Nat.reducePow, Int.reduceToNat, Int.reducePow, Nat.zero_add, Nat.mul_one, Int.toNat_natCast, B92_0, R92_3, e11, e12]
    refine WCond_dec (fun hc => ?_) (fun hc => ?_)
    · simp (maxSteps := 2000000) (disch := first | omega | assumption | (simp only [oneC_int, oneC_bool, oneC_str, oneC_ptr, oneC_sl, oneC_map]; done) | (simp only [List.length_cons, List.length_nil, List.length_set, List.length_map, List.length_replicate, List.length_append, List.length_take, List.length_drop, Int.toNat_natCast] <;> omega) | fail) only [Go.Rx.vi, Go.Rx.vb, Go.Rx.vstr, rxc, rxo, Nat.reduceLeDiff, List.getElem?_cons_zero, List.getElem?_cons_succ, List.length_cons, List.length_nil, List.set_cons_zero, List.set_cons_succ, ↓reduceIte, Bool.not_true, Bool.not_false, true_and, and_true, not_true_eq_false, not_false_eq_true, decide_true, decide_false, Nat.reduceEqDiff, Nat.reduceAdd, Nat.reduceMul, Nat.reducePow, Int.reduceToNat, Int.reducePow, Nat.zero_add, Nat.mul_one, Int.toNat_natCast, R92_4, e10, e12, r2]
      simp (maxSteps := 2000000) (disch := first | omega | assumption | (simp only [oneC_int, oneC_bool, oneC_str, oneC_ptr, oneC_sl, oneC_map]; done) | (simp only [List.length_cons, List.length_nil, List.length_set, List.length_map, List.length_replicate, List.length_append, List.length_take, List.length_drop, Int.toNat_natCast] <;> omega) | fail) only [Go.Rx.vi, Go.Rx.vb, Go.Rx.vstr, rxc, rxo, Nat.reduceLeDiff, List.getElem?_cons_zero, List.getElem?_cons_succ, List.length_cons, List.length_nil, List.set_cons_zero, List.set_cons_succ, ↓reduceIte, Bool.not_true, Bool.not_false, true_and, and_true, not_true_eq_false, not_false_eq_true, decide_true, decide_false, Nat.reduceEqDiff, Nat.reduceAdd, Nat.reduceMul, Nat.reducePow, Int.reduceToNat, Int.reducePow, Nat.zero_add, Nat.mul_one, Int.toNat_natCast, R92_5, e1]
      refine bs_ok m (ht.gp g) hr (by omega) ?_
      intro j
      have htk : l.take (i + 1) = l.take i ++ [l.getD i 0] := by
        rw [List.take_add_one, List.getD_eq_getElem?_getD, List.getElem?_eq_getElem (by omega)]; rfl
      have hfl := List.length_filter_le (fun x => decide (¬ x ∈ k)) (l.take i)
      rw [List.length_take] at hfl
      simp (maxSteps := 2000000) (disch := first | omega | assumption | (simp only [oneC_int, oneC_bool, oneC_str, oneC_ptr, oneC_sl, oneC_map]; done) | (simp only [List.length_cons, List.length_nil, List.length_set, List.length_map, List.length_replicate, List.length_append, List.length_take, List.length_drop, Int.toNat_natCast] <;> omega) | fail) only [Go.Rx.vi, Go.Rx.vb, Go.Rx.vstr, rxc, rxo, Nat.reduceLeDiff, List.getElem?_cons_zero, List.getElem?_cons_succ, List.length_cons, List.length_nil, List.set_cons_zero, List.set_cons_succ, ↓reduceIte, Bool.not_true, Bool.not_false, true_and, and_true, not_true_eq_false, not_false_eq_true, decide_true, decide_false, Nat.reduceEqDiff, Nat.reduceAdd, Nat.reduceMul, Nat.reducePow, Int.reduceToNat, Int.reducePow, Nat.zero_add, Nat.mul_one, Int.toNat_natCast, R92_6]
      by_cases hmem : l.getD i 0 ∈ k
      · simp only [hmem, not_true_eq_false, decide_false]
        simp (maxSteps := 2000000) (disch := first | omega | assumption | (simp only [oneC_int, oneC_bool, oneC_str, oneC_ptr, oneC_sl, oneC_map]; done) | (simp only [List.length_cons, List.length_nil, List.length_set, List.length_map, List.length_replicate, List.length_append, List.length_take, List.length_drop, Int.toNat_natCast] <;> omega) | fail) only [Go.Rx.vi, Go.Rx.vb, Go.Rx.vstr, rxc, rxo, Nat.reduceLeDiff, List.getElem?_cons_zero, List.getElem?_cons_succ, List.length_cons, List.length_nil, List.set_cons_zero, List.set_cons_succ, ↓reduceIte, Bool.not_true, Bool.not_false, true_and, and_true, not_true_eq_false, not_false_eq_true, decide_true, decide_false, Nat.reduceEqDiff, Nat.reduceAdd, Nat.reduceMul, Nat.reducePow, Int.reduceToNat, Int.reducePow, Nat.zero_add, Nat.mul_one, Int.toNat_natCast, R92_8, e1, e5, e10, e11, e12]
        refine ⟨_, ?_, i + 1, u, rfl, by omega, rfl, ?_, hb, ?_, g⟩
        · omega
        · simp
        · have hf : [l.getD i 0].filter (fun x => decide (¬ x ∈ k)) = [] := by
            simp only [List.filter_cons, hmem, not_true_eq_false, decide_false, List.filter_nil]; rfl
          rw [htk, List.filter_append, hf, List.append_nil]
          exact ho
      · simp only [hmem, not_false_eq_true, decide_true]
        obtain ⟨u', h2, a1, a2, a3, a4⟩ := appI1_ex (x := l.getD i 0) (by omega) ho (by omega)
        simp (maxSteps := 2000000) (disch := first | omega | assumption | (simp only [oneC_int, oneC_bool, oneC_str, oneC_ptr, oneC_sl, oneC_map]; done) | (simp only [List.length_cons, List.length_nil, List.length_set, List.length_map, List.length_replicate, List.length_append, List.length_take, List.length_drop, Int.toNat_natCast] <;> omega) | fail) only [Go.Rx.vi, Go.Rx.vb, Go.Rx.vstr, rxc, rxo, Nat.reduceLeDiff, List.getElem?_cons_zero, List.getElem?_cons_succ, List.length_cons, List.length_nil, List.set_cons_zero, List.set_cons_succ, ↓reduceIte, Bool.not_true, Bool.not_false, true_and, and_true, not_true_eq_false, not_false_eq_true, decide_true, decide_false, Nat.reduceEqDiff, Nat.reduceAdd, Nat.reduceMul, Nat.reducePow, Int.reduceToNat, Int.reducePow, Nat.zero_add, Nat.mul_one, Int.toNat_natCast, R92_7, e5, a1, R92_8, e1, e10, e11, e12]
        refine ⟨_, ?_, i + 1, u', rfl, by omega, rfl, ?_, ?_, ?_, g.chg a3 (by omega)⟩
        · omega
        · simp
        · omega
        · have hf : [l.getD i 0].filter (fun x => decide (¬ x ∈ k)) = [l.getD i 0] := by
            simp only [List.filter_cons, hmem, not_false_eq_true, decide_true, List.filter_nil]; rfl
          rw [htk, List.filter_append, hf]
          exact a2
    · simp (maxSteps := 2000000) (disch := first | omega | assumption | (simp only [oneC_int, oneC_bool, oneC_str, oneC_ptr, oneC_sl, oneC_map]; done) | (simp only [List.length_cons, List.length_nil, List.length_set, List.length_map, List.length_replicate, List.length_append, List.length_take, List.length_drop, Int.toNat_natCast] <;> omega) | fail) only [Go.Rx.vi, Go.Rx.vb, Go.Rx.vstr, rxc, rxo, Nat.reduceLeDiff, List.getElem?_cons_zero, List.getElem?_cons_succ, List.length_cons, List.length_nil, List.set_cons_zero, List.set_cons_succ, ↓reduceIte, Bool.not_true, Bool.not_false, true_and, and_true, not_true_eq_false, not_false_eq_true, decide_true, decide_false, Nat.reduceEqDiff, Nat.reduceAdd, Nat.reduceMul, Nat.reducePow, Int.reduceToNat, Int.reducePow, Nat.zero_add, Nat.mul_one, Int.toNat_natCast, e5]
      rw [List.take_of_length_le (by omega)] at ho
      exact ⟨u, rfl, hb, ho, g⟩
  · rintro e h' ⟨u, e5, hb, ho, g⟩
    simp (maxSteps := 2000000) (disch := first | omega | assumption | (simp only [oneC_int, oneC_bool, oneC_str, oneC_ptr, oneC_sl, oneC_map]; done) | (simp only [List.length_cons, List.length_nil, List.length_set, List.length_map, List.length_replicate, List.length_append, List.length_take, List.length_drop, Int.toNat_natCast] <;> omega) | fail) only [Go.Rx.vi, Go.Rx.vb, Go.Rx.vstr, rxc, rxo, Nat.reduceLeDiff, List.getElem?_cons_zero, List.getElem?_cons_succ, List.length_cons, List.length_nil, List.set_cons_zero, List.set_cons_succ, ↓reduceIte, Bool.not_true, Bool.not_false, true_and, and_true, not_true_eq_false, not_false_eq_true, decide_true, decide_false, Nat.reduceEqDiff, Nat.reduceAdd, Nat.reduceMul, Nat.reducePow, Int.reduceToNat, Int.reducePow, Nat.zero_add, Nat.mul_one, Int.toNat_natCast, R92_9, e5]
    exact hk _ _ ho g hb

/-! ### both -/
def mrg : List Int → List Int → List Int
  | [], b => b
  | x :: a, [] => x :: a
  | x :: a, y :: b => if x < y then x :: mrg a (y :: b) else if y < x then y :: mrg (x :: a) b else x :: mrg a b
termination_by a b => a.length + b.length
theorem mrg_nil {a : List Int} : mrg a [] = a := by cases a <;> simp [mrg]
theorem mrg_mem {z : Int} : ∀ (a b : List Int), z ∈ mrg a b ↔ z ∈ a ∨ z ∈ b
  | [], b => by simp [mrg]
  | x :: a, [] => by simp [mrg]
  | x :: a, y :: b => by
    rw [mrg]
    split
    · rw [List.mem_cons, mrg_mem a (y :: b)]
      simp only [List.mem_cons, or_assoc]
    · split
      · rw [List.mem_cons, mrg_mem (x :: a) b, List.mem_cons (a := z) (b := y)]
        constructor
        · rintro (h | h | h)
          · exact .inr (.inl h)
          · exact .inl h
          · exact .inr (.inr h)
        · rintro (h | h | h)
          · exact .inr (.inl h)
          · exact .inl h
          · exact .inr (.inr h)
      · have hxy : x = y := by omega
        subst hxy
        rw [List.mem_cons, mrg_mem a b, List.mem_cons, List.mem_cons]
        constructor
        · rintro (h | h | h)
          · exact .inl (.inl h)
          · exact .inl (.inr h)
          · exact .inr (.inr h)
        · rintro ((h | h) | (h | h))
          · exact .inl h
          · exact .inr (.inl h)
          · exact .inl h
          · exact .inr (.inr h)
termination_by a b => a.length + b.length
theorem mrg_rise : ∀ {a b : List Int}, Rise a → Rise b → Rise (mrg a b)
  | [], b, _, hb => by simpa [mrg] using hb
  | x :: a, [], ha, _ => by simpa [mrg] using ha
  | x :: a, y :: b, ha, hb => by
    have ha' := List.pairwise_cons.1 ha
    have hb' := List.pairwise_cons.1 hb
    rw [mrg]
    split
    · rename_i h
      refine List.pairwise_cons.2 ⟨fun z hz => ?_, mrg_rise ha'.2 hb⟩
      rcases (mrg_mem _ _).1 hz with hz | hz
      · exact ha'.1 z hz
      · rcases List.mem_cons.1 hz with rfl | hz
        · exact h
        · have := hb'.1 z hz; omega
    · split
      · rename_i h
        refine List.pairwise_cons.2 ⟨fun z hz => ?_, mrg_rise ha hb'.2⟩
        rcases (mrg_mem _ _).1 hz with hz | hz
        · rcases List.mem_cons.1 hz with rfl | hz
          · exact h
          · have := ha'.1 z hz; omega
        · exact hb'.1 z hz
      · refine List.pairwise_cons.2 ⟨fun z hz => ?_, mrg_rise ha'.2 hb'.2⟩
        rcases (mrg_mem _ _).1 hz with hz | hz
        · exact ha'.1 z hz
        · have := hb'.1 z hz; omega
termination_by a b => a.length + b.length
theorem mrg_len : ∀ (a b : List Int), (mrg a b).length ≤ a.length + b.length
  | [], b => by simp [mrg]
  | x :: a, [] => by simp [mrg]
  | x :: a, y :: b => by
    rw [mrg]
    split
    · have := mrg_len a (y :: b); simp only [List.length_cons] at this ⊢; omega
    · split
      · have := mrg_len (x :: a) b; simp only [List.length_cons] at this ⊢; omega
      · have := mrg_len a b; simp only [List.length_cons] at this ⊢; omega
termination_by a b => a.length + b.length

theorem IO.made {h : Heap} {c : Nat} (h1 : 1 ≤ h.next) : IO (h.new (.cells (repL [.int .i64 0] c) 3 true)) (.slice (some ⟨h.next, 0, none⟩) 0 c) [] :=
  ⟨by show h.next < h.next + 1; omega, by simp, .inr ⟨h.next, c, List.replicate c (.int .i64 0), rfl, h1, by rw [at_new_same, repL_one]; rfl, by simp, by simp⟩⟩
theorem both_ok (hm : M.Mono) (hO : M.O 76 = none) (hF : M.F 76 = some A76) {va vb : Value} {a b : List Int} {h : Heap} {K : KF} (h1 : 1 ≤ h.next) (ha : IV h va a) (hb : IV h vb b) (hla : a.length ≤ 1000000) (hlb : b.length ≤ 1000000)
  (hk : ∀ v' h', IO h' v' (mrg a b) → GrowP h h' → h.next ≤ bno v' → K v' h') : WF M 76 [va, vb] h K := by
  rw [WF_eqT 6 hO hF]
  have ra := ha.r
  have rb := hb.r
  have hmk : iMks 3 1 8 [.int .i64 0] (.int .i64 0) (.int .i64 ((a.length : Int) + b.length)) h = some (.slice (some ⟨h.next, 0, none⟩) 0 (a.length + b.length), h.new (.cells (repL [.int .i64 0] (a.length + b.length)) 3 true)) := by
    rw [iMks_ok (by omega) (by omega) (by omega) (by omega) (by omega)]
    rfl
  simp (maxSteps := 2000000) (disch := first | omega | assumption | (simp only [oneC_int, oneC_bool, oneC_str, oneC_ptr, oneC_sl, oneC_map]; done) | (simp only [List.length_cons, List.length_nil, List.length_set, List.length_map, List.length_replicate, List.length_append, List.length_take, List.length_drop, Int.toNat_natCast] <;> omega) | fail) only [Go.Rx.vi, Go.Rx.vb, Go.Rx.vstr, rxc, rxo, Nat.reduceLeDiff, List.getElem?_cons_zero, List.getElem?_cons_succ, List.length_cons, List.length_nil, List.set_cons_zero, List.set_cons_succ, ↓reduceIte, Bool.not_true, Bool.not_false, true_and, and_true, not_true_eq_false, not_false_eq_true, decide_true, decide_false, Nat.reduceEqDiff, Nat.reduceAdd, Nat.reduceMul, Nat.reducePow, Int.reduceToNat, Int.reducePow, Nat.zero_add, Nat.mul_one, Int.toNat_natCast, A76, R76_0, R76_1, ra, rb, hmk]
  have ho0 := IO.made (c := a.length + b.length) h1
  have g0 : GrowP h (h.new (.cells (repL [.int .i64 0] (a.length + b.length)) 3 true)) := (GrowP.refl h).new
  refine WC_bloop 6 (fun mm e h' => ∃ (va' vb' u : Value) (a' b' o : List Int), mm = a'.length + b'.length ∧ a'.length + b'.length + o.length ≤ a.length + b.length ∧ o ++ mrg a' b' = mrg a b ∧ e.g 0 = va' ∧ e.g 1 = vb' ∧ e.g 5 = u ∧ IV h va' a' ∧ IV h vb' b' ∧ IO h' u o ∧ h.next ≤ bno u ∧ GrowP h h')
    (fun e h' => ∃ (u : Value), e.g 5 = u ∧ IO h' u (mrg a b) ∧ h.next ≤ bno u ∧ GrowP h h') ?_ ?_ ?_
  · refine ⟨_, va, vb, _, a, b, [], rfl, by simp, by simp, ?_, ?_, ?_, ha, hb, ho0, Nat.le_refl _, g0⟩
    · simp (maxSteps := 2000000) (disch := first | omega | assumption | (simp only [oneC_int, oneC_bool, oneC_str, oneC_ptr, oneC_sl, oneC_map]; done) | (simp only [List.length_cons, List.length_nil, List.length_set, List.length_map, List.length_replicate, List.length_append, List.length_take, List.length_drop, Int.toNat_natCast] <;> omega) | fail) only [Go.Rx.vi, Go.Rx.vb, Go.Rx.vstr, rxc, rxo, Nat.reduceLeDiff, List.getElem?_cons_zero, List.getElem?_cons_succ, List.length_cons, List.length_nil, List.set_cons_zero, List.set_cons_succ, ↓reduceIte, Bool.not_true, Bool.not_false, true_and, and_true, not_true_eq_false, not_false_eq_true, decide_true, decide_false, Nat.reduceEqDiff, Nat.reduceAdd, Nat.reduceMul, Nat.reducePow, Int.reduceToNat, Int.reducePow, Nat.zero_add, Nat.mul_one, Int.toNat_natCast]
    · simp (maxSteps := 2000000) (disch := first | omega | assumption | (simp only [oneC_int, oneC_bool, oneC_str, oneC_ptr, oneC_sl, oneC_map]; done) | (simp only [List.length_cons, List.length_nil, List.length_set, List.length_map, List.length_replicate, List.length_append, List.length_take, List.length_drop, Int.toNat_natCast] <;> omega) | fail) only [Go.Rx.vi, Go.Rx.vb, Go.Rx.vstr, rxc, rxo, Nat.reduceLeDiff, List.getElem?_cons_zero, List.getElem?_cons_succ, List.length_cons, List.length_nil, List.set_cons_zero, List.set_cons_succ, ↓reduceIte, Bool.not_true, Bool.not_false, true_and, and_true, not_true_eq_false, not_false_eq_true, decide_true, decide_false, Nat.reduceEqDiff, Nat.reduceAdd, Nat.reduceMul, Nat.reducePow, Int.reduceToNat, Int.reducePow, Nat.zero_add, Nat.mul_one, Int.toNat_natCast]
    · simp (maxSteps := 2000000) (disch := first | omega | assumption | (simp only [oneC_int, oneC_bool, oneC_str, oneC_ptr, oneC_sl, oneC_map]; done) | (simp only [List.length_cons, List.length_nil, List.length_set, List.length_map, List.length_replicate, List.length_append, List.length_take, List.length_drop, Int.toNat_natCast] <;> omega) | fail) only [Go.Rx.vi, Go.Rx.vb, Go.Rx.vstr, rxc, rxo, Nat.reduceLeDiff, List.getElem?_cons_zero, List.getElem?_cons_succ, List.length_cons, List.length_nil, List.set_cons_zero, List.set_cons_succ, ↓reduceIte, Bool.not_true, Bool.not_false, true_and, and_true, not_true_eq_false, not_false_eq_true, decide_true, decide_false, Nat.reduceEqDiff, Nat.reduceAdd, Nat.reduceMul, Nat.reducePow, Int.reduceToNat, Int.reducePow, Nat.zero_add, Nat.mul_one, Int.toNat_natCast]
  · rintro mm e h' ⟨va, vb, u, a', b', o, rfl, hlen, hmrg, e0, e1, e5, ha, hb, ho, hu, g⟩
    have hun := ho.1
    have r1 := (ha.gp g).r
    have r2 := (hb.gp g).r
    have hgn := g.next
    match a', b', ha, hb, r1, r2, hlen, hmrg with
    | [], [], ha, hb, r1, r2, hlen, hmrg =>
      simp only [List.length_nil] at r1 r2
      simp (maxSteps := 2000000) (disch := first | omega | assumption | (simp only [oneC_int, oneC_bool, oneC_str, oneC_ptr, oneC_sl, oneC_map]; done) | (simp only [List.length_cons, List.length_nil, List.length_set, List.length_map, List.length_replicate, List.length_append, List.length_take, List.length_drop, Int.toNat_natCast] <;> omega) | fail) only [Go.Rx.vi, Go.Rx.vb, Go.Rx.vstr, rxc, rxo, Nat.reduceLeDiff, List.getElem?_cons_zero, List.getElem?_cons_succ, List.length_cons, List.length_nil, List.set_cons_zero, List.set_cons_succ, ↓reduceIte, Bool.not_true, Bool.not_false, true_and, and_true, not_true_eq_false, not_false_eq_true, decide_true, decide_false, Nat.reduceEqDiff, Nat.reduceAdd, Nat.reduceMul, Nat.reducePow, Int.reduceToNat, Int.reducePow, Nat.zero_add, Nat.mul_one, Int.toNat_natCast, B76_0, R76_2, e0, e1, e5, r1, r2]
      rw [mrg, List.append_nil] at hmrg
      rw [hmrg] at ho
      exact ⟨u, rfl, ho, hu, g⟩
    | x :: a', [], ha, hb, r1, r2, hlen, hmrg =>
      simp only [List.length_nil, List.length_cons] at r1 r2
      simp (maxSteps := 2000000) (disch := first | omega | assumption | (simp only [oneC_int, oneC_bool, oneC_str, oneC_ptr, oneC_sl, oneC_map]; done) | (simp only [List.length_cons, List.length_nil, List.length_set, List.length_map, List.length_replicate, List.length_append, List.length_take, List.length_drop, Int.toNat_natCast] <;> omega) | fail) only [Go.Rx.vi, Go.Rx.vb, Go.Rx.vstr, rxc, rxo, Nat.reduceLeDiff, List.getElem?_cons_zero, List.getElem?_cons_succ, List.length_cons, List.length_nil, List.set_cons_zero, List.set_cons_succ, ↓reduceIte, Bool.not_true, Bool.not_false, true_and, and_true, not_true_eq_false, not_false_eq_true, decide_true, decide_false, Nat.reduceEqDiff, Nat.reduceAdd, Nat.reduceMul, Nat.reducePow, Int.reduceToNat, Int.reducePow, Nat.zero_add, Nat.mul_one, Int.toNat_natCast, B76_0, R76_2, e0, e1, e5, r1, r2]
      refine WC_regd0 hm ?_
      simp (maxSteps := 2000000) (disch := first | omega | assumption | (simp only [oneC_int, oneC_bool, oneC_str, oneC_ptr, oneC_sl, oneC_map]; done) | (simp only [List.length_cons, List.length_nil, List.length_set, List.length_map, List.length_replicate, List.length_append, List.length_take, List.length_drop, Int.toNat_natCast] <;> omega) | fail) only [Go.Rx.vi, Go.Rx.vb, Go.Rx.vstr, rxc, rxo, Nat.reduceLeDiff, List.getElem?_cons_zero, List.getElem?_cons_succ, List.length_cons, List.length_nil, List.set_cons_zero, List.set_cons_succ, ↓reduceIte, Bool.not_true, Bool.not_false, true_and, and_true, not_true_eq_false, not_false_eq_true, decide_true, decide_false, Nat.reduceEqDiff, Nat.reduceAdd, Nat.reduceMul, Nat.reducePow, Int.reduceToNat, Int.reducePow, Nat.zero_add, Nat.mul_one, Int.toNat_natCast, R76_3, e0, e1, e5, r1, r2]
      refine WC_regd hm ?_
      obtain ⟨u', h2, a1, a2, a3, a4⟩ := appI1_ex (x := x) (by omega) ho (by simp at hlen; omega)
      obtain ⟨t1, t2⟩ := ((ha.gp g).gp (Grow.refl h').new.p (h' := h'.new (.cells [.int .i64 x] 3 true))).tl (k := .i64)
      obtain ⟨t3, t4⟩ := ((ha.gp g).chg a3 (by have := ha.1; omega)).tl (k := .i64)
      have t5 := sameA_ref t4
      simp (maxSteps := 2000000) (disch := first | omega | assumption | (simp only [oneC_int, oneC_bool, oneC_str, oneC_ptr, oneC_sl, oneC_map]; done) | (simp only [List.length_cons, List.length_nil, List.length_set, List.length_map, List.length_replicate, List.length_append, List.length_take, List.length_drop, Int.toNat_natCast] <;> omega) | fail) only [Go.Rx.vi, Go.Rx.vb, Go.Rx.vstr, rxc, rxo, Nat.reduceLeDiff, List.getElem?_cons_zero, List.getElem?_cons_succ, List.length_cons, List.length_nil, List.set_cons_zero, List.set_cons_succ, ↓reduceIte, Bool.not_true, Bool.not_false, true_and, and_true, not_true_eq_false, not_false_eq_true, decide_true, decide_false, Nat.reduceEqDiff, Nat.reduceAdd, Nat.reduceMul, Nat.reducePow, Int.reduceToNat, Int.reducePow, Nat.zero_add, Nat.mul_one, Int.toNat_natCast, R76_4, rxt, e0, e1, e5, r1, r2, a1, List.getD_cons_zero, t3]
      refine ⟨staysAll_one (h1 := h'.new (.cells [.int .i64 x] 3 true)) (h2 := h2) rfl rfl (stays_on (v := tlQ va) (h' := h'.new (.cells [.int .i64 x] 3 true)) rfl ?_ ?_) (stays_on (v := tlQ va) (h' := h2) rfl ?_ ?_), ?_⟩
      · simp (maxSteps := 2000000) (disch := first | omega | assumption | (simp only [oneC_int, oneC_bool, oneC_str, oneC_ptr, oneC_sl, oneC_map]; done) | (simp only [List.length_cons, List.length_nil, List.length_set, List.length_map, List.length_replicate, List.length_append, List.length_take, List.length_drop, Int.toNat_natCast] <;> omega) | fail) only [Go.Rx.vi, Go.Rx.vb, Go.Rx.vstr, rxc, rxo, Nat.reduceLeDiff, List.getElem?_cons_zero, List.getElem?_cons_succ, List.length_cons, List.length_nil, List.set_cons_zero, List.set_cons_succ, ↓reduceIte, Bool.not_true, Bool.not_false, true_and, and_true, not_true_eq_false, not_false_eq_true, decide_true, decide_false, Nat.reduceEqDiff, Nat.reduceAdd, Nat.reduceMul, Nat.reducePow, Int.reduceToNat, Int.reducePow, Nat.zero_add, Nat.mul_one, Int.toNat_natCast, e0, e1, t1]
      · simp (maxSteps := 2000000) (disch := first | omega | assumption | (simp only [oneC_int, oneC_bool, oneC_str, oneC_ptr, oneC_sl, oneC_map]; done) | (simp only [List.length_cons, List.length_nil, List.length_set, List.length_map, List.length_replicate, List.length_append, List.length_take, List.length_drop, Int.toNat_natCast] <;> omega) | fail) only [Go.Rx.vi, Go.Rx.vb, Go.Rx.vstr, rxc, rxo, Nat.reduceLeDiff, List.getElem?_cons_zero, List.getElem?_cons_succ, List.length_cons, List.length_nil, List.set_cons_zero, List.set_cons_succ, ↓reduceIte, Bool.not_true, Bool.not_false, true_and, and_true, not_true_eq_false, not_false_eq_true, decide_true, decide_false, Nat.reduceEqDiff, Nat.reduceAdd, Nat.reduceMul, Nat.reducePow, Int.reduceToNat, Int.reducePow, Nat.zero_add, Nat.mul_one, Int.toNat_natCast, t5]
      · simp (maxSteps := 2000000) (disch := first | omega | assumption | (simp only [oneC_int, oneC_bool, oneC_str, oneC_ptr, oneC_sl, oneC_map]; done) | (simp only [List.length_cons, List.length_nil, List.length_set, List.length_map, List.length_replicate, List.length_append, List.length_take, List.length_drop, Int.toNat_natCast] <;> omega) | fail) only [Go.Rx.vi, Go.Rx.vb, Go.Rx.vstr, rxc, rxo, Nat.reduceLeDiff, List.getElem?_cons_zero, List.getElem?_cons_succ, List.length_cons, List.length_nil, List.set_cons_zero, List.set_cons_succ, ↓reduceIte, Bool.not_true, Bool.not_false, true_and, and_true, not_true_eq_false, not_false_eq_true, decide_true, decide_false, Nat.reduceEqDiff, Nat.reduceAdd, Nat.reduceMul, Nat.reducePow, Int.reduceToNat, Int.reducePow, Nat.zero_add, Nat.mul_one, Int.toNat_natCast, e0, e1, t3]
      · simp (maxSteps := 2000000) (disch := first | omega | assumption | (simp only [oneC_int, oneC_bool, oneC_str, oneC_ptr, oneC_sl, oneC_map]; done) | (simp only [List.length_cons, List.length_nil, List.length_set, List.length_map, List.length_replicate, List.length_append, List.length_take, List.length_drop, Int.toNat_natCast] <;> omega) | fail) only [Go.Rx.vi, Go.Rx.vb, Go.Rx.vstr, rxc, rxo, Nat.reduceLeDiff, List.getElem?_cons_zero, List.getElem?_cons_succ, List.length_cons, List.length_nil, List.set_cons_zero, List.set_cons_succ, ↓reduceIte, Bool.not_true, Bool.not_false, true_and, and_true, not_true_eq_false, not_false_eq_true, decide_true, decide_false, Nat.reduceEqDiff, Nat.reduceAdd, Nat.reduceMul, Nat.reducePow, Int.reduceToNat, Int.reducePow, Nat.zero_add, Nat.mul_one, Int.toNat_natCast, t5]
      simp (maxSteps := 2000000) (disch := first | omega | assumption | (simp only [oneC_int, oneC_bool, oneC_str, oneC_ptr, oneC_sl, oneC_map]; done) | (simp only [List.length_cons, List.length_nil, List.length_set, List.length_map, List.length_replicate, List.length_append, List.length_take, List.length_drop, Int.toNat_natCast] <;> omega) | fail) only [Go.Rx.vi, Go.Rx.vb, Go.Rx.vstr, rxc, rxo, Nat.reduceLeDiff, List.getElem?_cons_zero, List.getElem?_cons_succ, List.length_cons, List.length_nil, List.set_cons_zero, List.set_cons_succ, ↓reduceIte, Bool.not_true, Bool.not_false, true_and, and_true, not_true_eq_false, not_false_eq_true, decide_true, decide_false, Nat.reduceEqDiff, Nat.reduceAdd, Nat.reduceMul, Nat.reducePow, Int.reduceToNat, Int.reducePow, Nat.zero_add, Nat.mul_one, Int.toNat_natCast, e0, e1, e5]
      refine ⟨_, ?_, tlQ va, vb, u', a', [], o ++ [x], rfl, ?_, ?_, rfl, rfl, rfl, ?_, ?_, a2, by omega, g.chg a3 (by omega)⟩
      · first | omega | (simp; done) | (simp; omega)
      · simp at hlen ⊢; omega
      · rw [← hmrg, show mrg (x :: a') [] = x :: mrg a' [] by rw [mrg, mrg_nil]]; simp
      · exact (ha.tl (k := .i64)).2
      · exact hb
    | [], y :: b', ha, hb, r1, r2, hlen, hmrg =>
      simp only [List.length_nil, List.length_cons] at r1 r2
      simp (maxSteps := 2000000) (disch := first | omega | assumption | (simp only [oneC_int, oneC_bool, oneC_str, oneC_ptr, oneC_sl, oneC_map]; done) | (simp only [List.length_cons, List.length_nil, List.length_set, List.length_map, List.length_replicate, List.length_append, List.length_take, List.length_drop, Int.toNat_natCast] <;> omega) | fail) only [Go.Rx.vi, Go.Rx.vb, Go.Rx.vstr, rxc, rxo, Nat.reduceLeDiff, List.getElem?_cons_zero, List.getElem?_cons_succ, List.length_cons, List.length_nil, List.set_cons_zero, List.set_cons_succ, ↓reduceIte, Bool.not_true, Bool.not_false, true_and, and_true, not_true_eq_false, not_false_eq_true, decide_true, decide_false, Nat.reduceEqDiff, Nat.reduceAdd, Nat.reduceMul, Nat.reducePow, Int.reduceToNat, Int.reducePow, Nat.zero_add, Nat.mul_one, Int.toNat_natCast, B76_0, R76_2, e0, e1, e5, r1, r2]
      refine WC_regd0 hm ?_
      simp (maxSteps := 2000000) (disch := first | omega | assumption | (simp only [oneC_int, oneC_bool, oneC_str, oneC_ptr, oneC_sl, oneC_map]; done) | (simp only [List.length_cons, List.length_nil, List.length_set, List.length_map, List.length_replicate, List.length_append, List.length_take, List.length_drop, Int.toNat_natCast] <;> omega) | fail) only [Go.Rx.vi, Go.Rx.vb, Go.Rx.vstr, rxc, rxo, Nat.reduceLeDiff, List.getElem?_cons_zero, List.getElem?_cons_succ, List.length_cons, List.length_nil, List.set_cons_zero, List.set_cons_succ, ↓reduceIte, Bool.not_true, Bool.not_false, true_and, and_true, not_true_eq_false, not_false_eq_true, decide_true, decide_false, Nat.reduceEqDiff, Nat.reduceAdd, Nat.reduceMul, Nat.reducePow, Int.reduceToNat, Int.reducePow, Nat.zero_add, Nat.mul_one, Int.toNat_natCast, R76_3, e0, e1, e5, r1, r2]
      refine WC_regd0 hm ?_
      simp (maxSteps := 2000000) (disch := first | omega | assumption | (simp only [oneC_int, oneC_bool, oneC_str, oneC_ptr, oneC_sl, oneC_map]; done) | (simp only [List.length_cons, List.length_nil, List.length_set, List.length_map, List.length_replicate, List.length_append, List.length_take, List.length_drop, Int.toNat_natCast] <;> omega) | fail) only [Go.Rx.vi, Go.Rx.vb, Go.Rx.vstr, rxc, rxo, Nat.reduceLeDiff, List.getElem?_cons_zero, List.getElem?_cons_succ, List.length_cons, List.length_nil, List.set_cons_zero, List.set_cons_succ, ↓reduceIte, Bool.not_true, Bool.not_false, true_and, and_true, not_true_eq_false, not_false_eq_true, decide_true, decide_false, Nat.reduceEqDiff, Nat.reduceAdd, Nat.reduceMul, Nat.reducePow, Int.reduceToNat, Int.reducePow, Nat.zero_add, Nat.mul_one, Int.toNat_natCast, R76_5, e0, e1, e5, r1, r2]
      refine WC_regd hm ?_
      obtain ⟨u', h2, a1, a2, a3, a4⟩ := appI1_ex (x := y) (by omega) ho (by simp at hlen; omega)
      obtain ⟨s1, s2⟩ := ((hb.gp g).gp (Grow.refl h').new.p (h' := h'.new (.cells [.int .i64 y] 3 true))).tl (k := .i64)
      obtain ⟨s3, s4⟩ := ((hb.gp g).chg a3 (by have := hb.1; omega)).tl (k := .i64)
      have s5 := sameA_ref s4
      simp (maxSteps := 2000000) (disch := first | omega | assumption | (simp only [oneC_int, oneC_bool, oneC_str, oneC_ptr, oneC_sl, oneC_map]; done) | (simp only [List.length_cons, List.length_nil, List.length_set, List.length_map, List.length_replicate, List.length_append, List.length_take, List.length_drop, Int.toNat_natCast] <;> omega) | fail) only [Go.Rx.vi, Go.Rx.vb, Go.Rx.vstr, rxc, rxo, Nat.reduceLeDiff, List.getElem?_cons_zero, List.getElem?_cons_succ, List.length_cons, List.length_nil, List.set_cons_zero, List.set_cons_succ, ↓reduceIte, Bool.not_true, Bool.not_false, true_and, and_true, not_true_eq_false, not_false_eq_true, decide_true, decide_false, Nat.reduceEqDiff, Nat.reduceAdd, Nat.reduceMul, Nat.reducePow, Int.reduceToNat, Int.reducePow, Nat.zero_add, Nat.mul_one, Int.toNat_natCast, R76_6, rxt, e0, e1, e5, r1, r2, a1, List.getD_cons_zero, s3]
      refine ⟨staysAll_one (h1 := h'.new (.cells [.int .i64 y] 3 true)) (h2 := h2) rfl rfl (stays_on (v := tlQ vb) (h' := h'.new (.cells [.int .i64 y] 3 true)) rfl ?_ ?_) (stays_on (v := tlQ vb) (h' := h2) rfl ?_ ?_), ?_⟩
      · simp (maxSteps := 2000000) (disch := first | omega | assumption | (simp only [oneC_int, oneC_bool, oneC_str, oneC_ptr, oneC_sl, oneC_map]; done) | (simp only [List.length_cons, List.length_nil, List.length_set, List.length_map, List.length_replicate, List.length_append, List.length_take, List.length_drop, Int.toNat_natCast] <;> omega) | fail) only [Go.Rx.vi, Go.Rx.vb, Go.Rx.vstr, rxc, rxo, Nat.reduceLeDiff, List.getElem?_cons_zero, List.getElem?_cons_succ, List.length_cons, List.length_nil, List.set_cons_zero, List.set_cons_succ, ↓reduceIte, Bool.not_true, Bool.not_false, true_and, and_true, not_true_eq_false, not_false_eq_true, decide_true, decide_false, Nat.reduceEqDiff, Nat.reduceAdd, Nat.reduceMul, Nat.reducePow, Int.reduceToNat, Int.reducePow, Nat.zero_add, Nat.mul_one, Int.toNat_natCast, e0, e1, s1]
      · simp (maxSteps := 2000000) (disch := first | omega | assumption | (simp only [oneC_int, oneC_bool, oneC_str, oneC_ptr, oneC_sl, oneC_map]; done) | (simp only [List.length_cons, List.length_nil, List.length_set, List.length_map, List.length_replicate, List.length_append, List.length_take, List.length_drop, Int.toNat_natCast] <;> omega) | fail) only [Go.Rx.vi, Go.Rx.vb, Go.Rx.vstr, rxc, rxo, Nat.reduceLeDiff, List.getElem?_cons_zero, List.getElem?_cons_succ, List.length_cons, List.length_nil, List.set_cons_zero, List.set_cons_succ, ↓reduceIte, Bool.not_true, Bool.not_false, true_and, and_true, not_true_eq_false, not_false_eq_true, decide_true, decide_false, Nat.reduceEqDiff, Nat.reduceAdd, Nat.reduceMul, Nat.reducePow, Int.reduceToNat, Int.reducePow, Nat.zero_add, Nat.mul_one, Int.toNat_natCast, s5]
      · simp (maxSteps := 2000000) (disch := first | omega | assumption | (simp only [oneC_int, oneC_bool, oneC_str, oneC_ptr, oneC_sl, oneC_map]; done) | (simp only [List.length_cons, List.length_nil, List.length_set, List.length_map, List.length_replicate, List.length_append, List.length_take, List.length_drop, Int.toNat_natCast] <;> omega) | fail) only [Go.Rx.vi, Go.Rx.vb, Go.Rx.vstr, rxc, rxo, Nat.reduceLeDiff, List.getElem?_cons_zero, List.getElem?_cons_succ, List.length_cons, List.length_nil, List.set_cons_zero, List.set_cons_succ, ↓reduceIte, Bool.not_true, Bool.not_false, true_and, and_true, not_true_eq_false, not_false_eq_true, decide_true, decide_false, Nat.reduceEqDiff, Nat.reduceAdd, Nat.reduceMul, Nat.reducePow, Int.reduceToNat, Int.reducePow, Nat.zero_add, Nat.mul_one, Int.toNat_natCast, e0, e1, s3]
      · simp (maxSteps := 2000000) (disch := first | omega | assumption | (simp only [oneC_int, oneC_bool, oneC_str, oneC_ptr, oneC_sl, oneC_map]; done) | (simp only [List.length_cons, List.length_nil, List.length_set, List.length_map, List.length_replicate, List.length_append, List.length_take, List.length_drop, Int.toNat_natCast] <;> omega) | fail) only [Go.Rx.vi, Go.Rx.vb, Go.Rx.vstr, rxc, rxo, Nat.reduceLeDiff, List.getElem?_cons_zero, List.getElem?_cons_succ, List.length_cons, List.length_nil, List.set_cons_zero, List.set_cons_succ, ↓reduceIte, Bool.not_true, Bool.not_false, true_and, and_true, not_true_eq_false, not_false_eq_true, decide_true, decide_false, Nat.reduceEqDiff, Nat.reduceAdd, Nat.reduceMul, Nat.reducePow, Int.reduceToNat, Int.reducePow, Nat.zero_add, Nat.mul_one, Int.toNat_natCast, s5]
      simp (maxSteps := 2000000) (disch := first | omega | assumption | (simp only [oneC_int, oneC_bool, oneC_str, oneC_ptr, oneC_sl, oneC_map]; done) | (simp only [List.length_cons, List.length_nil, List.length_set, List.length_map, List.length_replicate, List.length_append, List.length_take, List.length_drop, Int.toNat_natCast] <;> omega) | fail) only [Go.Rx.vi, Go.Rx.vb, Go.Rx.vstr, rxc, rxo, Nat.reduceLeDiff, List.getElem?_cons_zero, List.getElem?_cons_succ, List.length_cons, List.length_nil, List.set_cons_zero, List.set_cons_succ, ↓reduceIte, Bool.not_true, Bool.not_false, true_and, and_true, not_true_eq_false, not_false_eq_true, decide_true, decide_false, Nat.reduceEqDiff, Nat.reduceAdd, Nat.reduceMul, Nat.reducePow, Int.reduceToNat, Int.reducePow, Nat.zero_add, Nat.mul_one, Int.toNat_natCast, e0, e1, e5]
      refine ⟨_, ?_, va, tlQ vb, u', [], b', o ++ [y], rfl, ?_, ?_, rfl, rfl, rfl, ?_, ?_, a2, by omega, g.chg a3 (by omega)⟩
      · first | omega | (simp; done) | (simp; omega)
      · simp at hlen ⊢; omega
      · rw [← hmrg, show mrg [] (y :: b') = y :: mrg [] b' by rw [mrg, mrg]]; simp
      · exact ha
      · exact (hb.tl (k := .i64)).2
    | x :: a', y :: b', ha, hb, r1, r2, hlen, hmrg =>
      simp only [List.length_nil, List.length_cons] at r1 r2
      simp (maxSteps := 2000000) (disch := first | omega | assumption | (simp only [oneC_int, oneC_bool, oneC_str, oneC_ptr, oneC_sl, oneC_map]; done) | (simp only [List.length_cons, List.length_nil, List.length_set, List.length_map, List.length_replicate, List.length_append, List.length_take, List.length_drop, Int.toNat_natCast] <;> omega) | fail) only [Go.Rx.vi, Go.Rx.vb, Go.Rx.vstr, rxc, rxo, Nat.reduceLeDiff, List.getElem?_cons_zero, List.getElem?_cons_succ, List.length_cons, List.length_nil, List.set_cons_zero, List.set_cons_succ, ↓reduceIte, Bool.not_true, Bool.not_false, true_and, and_true, not_true_eq_false, not_false_eq_true, decide_true, decide_false, Nat.reduceEqDiff, Nat.reduceAdd, Nat.reduceMul, Nat.reducePow, Int.reduceToNat, Int.reducePow, Nat.zero_add, Nat.mul_one, Int.toNat_natCast, B76_0, R76_2, e0, e1, e5, r1, r2]
      refine WC_regd0 hm ?_
      simp (maxSteps := 2000000) (disch := first | omega | assumption | (simp only [oneC_int, oneC_bool, oneC_str, oneC_ptr, oneC_sl, oneC_map]; done) | (simp only [List.length_cons, List.length_nil, List.length_set, List.length_map, List.length_replicate, List.length_append, List.length_take, List.length_drop, Int.toNat_natCast] <;> omega) | fail) only [Go.Rx.vi, Go.Rx.vb, Go.Rx.vstr, rxc, rxo, Nat.reduceLeDiff, List.getElem?_cons_zero, List.getElem?_cons_succ, List.length_cons, List.length_nil, List.set_cons_zero, List.set_cons_succ, ↓reduceIte, Bool.not_true, Bool.not_false, true_and, and_true, not_true_eq_false, not_false_eq_true, decide_true, decide_false, Nat.reduceEqDiff, Nat.reduceAdd, Nat.reduceMul, Nat.reducePow, Int.reduceToNat, Int.reducePow, Nat.zero_add, Nat.mul_one, Int.toNat_natCast, R76_3, e0, e1, e5, r1, r2, List.getD_cons_zero]
      refine WCond_dec (fun hc => ?_) (fun hc => ?_)
      · refine WC_regd hm ?_
        obtain ⟨u', h2, a1, a2, a3, a4⟩ := appI1_ex (x := x) (by omega) ho (by simp at hlen; omega)
        obtain ⟨t1, t2⟩ := ((ha.gp g).gp (Grow.refl h').new.p (h' := h'.new (.cells [.int .i64 x] 3 true))).tl (k := .i64)
        obtain ⟨t3, t4⟩ := ((ha.gp g).chg a3 (by have := ha.1; omega)).tl (k := .i64)
        have t5 := sameA_ref t4
        simp (maxSteps := 2000000) (disch := first | omega | assumption | (simp only [oneC_int, oneC_bool, oneC_str, oneC_ptr, oneC_sl, oneC_map]; done) | (simp only [List.length_cons, List.length_nil, List.length_set, List.length_map, List.length_replicate, List.length_append, List.length_take, List.length_drop, Int.toNat_natCast] <;> omega) | fail) only [Go.Rx.vi, Go.Rx.vb, Go.Rx.vstr, rxc, rxo, Nat.reduceLeDiff, List.getElem?_cons_zero, List.getElem?_cons_succ, List.length_cons, List.length_nil, List.set_cons_zero, List.set_cons_succ, ↓reduceIte, Bool.not_true, Bool.not_false, true_and, and_true, not_true_eq_false, not_false_eq_true, decide_true, decide_false, Nat.reduceEqDiff, Nat.reduceAdd, Nat.reduceMul, Nat.reducePow, Int.reduceToNat, Int.reducePow, Nat.zero_add, Nat.mul_one, Int.toNat_natCast, R76_4, rxt, e0, e1, e5, r1, r2, a1, List.getD_cons_zero, t3]
        refine ⟨staysAll_one (h1 := h'.new (.cells [.int .i64 x] 3 true)) (h2 := h2) rfl rfl (stays_on (v := tlQ va) (h' := h'.new (.cells [.int .i64 x] 3 true)) rfl ?_ ?_) (stays_on (v := tlQ va) (h' := h2) rfl ?_ ?_), ?_⟩
        · simp (maxSteps := 2000000) (disch := first | omega | assumption | (simp only [oneC_int, oneC_bool, oneC_str, oneC_ptr, oneC_sl, oneC_map]; done) | (simp only [List.length_cons, List.length_nil, List.length_set, List.length_map, List.length_replicate, List.length_append, List.length_take, List.length_drop, Int.toNat_natCast] <;> omega) | fail) only [Go.Rx.vi, Go.Rx.vb, Go.Rx.vstr, rxc, rxo, Nat.reduceLeDiff, List.getElem?_cons_zero, List.getElem?_cons_succ, List.length_cons, List.length_nil, List.set_cons_zero, List.set_cons_succ, ↓reduceIte, Bool.not_true, Bool.not_false, true_and, and_true, not_true_eq_false, not_false_eq_true, decide_true, decide_false, Nat.reduceEqDiff, Nat.reduceAdd, Nat.reduceMul, Nat.reducePow, Int.reduceToNat, Int.reducePow, Nat.zero_add, Nat.mul_one, Int.toNat_natCast, e0, e1, t1]
        · simp (maxSteps := 2000000) (disch := first | omega | assumption | (simp only [oneC_int, oneC_bool, oneC_str, oneC_ptr, oneC_sl, oneC_map]; done) | (simp only [List.length_cons, List.length_nil, List.length_set, List.length_map, List.length_replicate, List.length_append, List.length_take, List.length_drop, Int.toNat_natCast] <;> omega) | fail) only [Go.Rx.vi, Go.Rx.vb, Go.Rx.vstr, rxc, rxo, Nat.reduceLeDiff, List.getElem?_cons_zero, List.getElem?_cons_succ, List.length_cons, List.length_nil, List.set_cons_zero, List.set_cons_succ, ↓reduceIte, Bool.not_true, Bool.not_false, true_and, and_true, not_true_eq_false, not_false_eq_true, decide_true, decide_false, Nat.reduceEqDiff, Nat.reduceAdd, Nat.reduceMul, Nat.reducePow, Int.reduceToNat, Int.reducePow, Nat.zero_add, Nat.mul_one, Int.toNat_natCast, t5]
        · simp (maxSteps := 2000000) (disch := first | omega | assumption | (simp only [oneC_int, oneC_bool, oneC_str, oneC_ptr, oneC_sl, oneC_map]; done) | (simp only [List.length_cons, List.length_nil, List.length_set, List.length_map, List.length_replicate, List.length_append, List.length_take, List.length_drop, Int.toNat_natCast] <;> omega) | fail) only [Go.Rx.vi, Go.Rx.vb, Go.Rx.vstr, rxc, rxo, Nat.reduceLeDiff, List.getElem?_cons_zero, List.getElem?_cons_succ, List.length_cons, List.length_nil, List.set_cons_zero, List.set_cons_succ, ↓reduceIte, Bool.not_true, Bool.not_false, true_and, and_true, not_true_eq_false, not_false_eq_true, decide_true, decide_false, Nat.reduceEqDiff, Nat.reduceAdd, Nat.reduceMul, Nat.reducePow, Int.reduceToNat, Int.reducePow, Nat.zero_add, Nat.mul_one, Int.toNat_natCast, e0, e1, t3]
        · simp (maxSteps := 2000000) (disch := first | omega | assumption | (simp only [oneC_int, oneC_bool, oneC_str, oneC_ptr, oneC_sl, oneC_map]; done) | (simp only [List.length_cons, List.length_nil, List.length_set, List.length_map, List.length_replicate, List.length_append, List.length_take, List.length_drop, Int.toNat_natCast] <;> omega) | fail) only [Go.Rx.vi, Go.Rx.vb, Go.Rx.vstr, rxc, rxo, Nat.reduceLeDiff, List.getElem?_cons_zero, List.getElem?_cons_succ, List.length_cons, List.length_nil, List.set_cons_zero, List.set_cons_succ, ↓reduceIte, Bool.not_true, Bool.not_false, true_and, and_true, not_true_eq_false, not_false_eq_true, decide_true, decide_false, Nat.reduceEqDiff, Nat.reduceAdd, Nat.reduceMul, Nat.reducePow, Int.reduceToNat, Int.reducePow, Nat.zero_add, Nat.mul_one, Int.toNat_natCast, t5]
        simp (maxSteps := 2000000) (disch := first | omega | assumption | (simp only [oneC_int, oneC_bool, oneC_str, oneC_ptr, oneC_sl, oneC_map]; done) | (simp only [List.length_cons, List.length_nil, List.length_set, List.length_map, List.length_replicate, List.length_append, List.length_take, List.length_drop, Int.toNat_natCast] <;> omega) | fail) only [Go.Rx.vi, Go.Rx.vb, Go.Rx.vstr, rxc, rxo, Nat.reduceLeDiff, List.getElem?_cons_zero, List.getElem?_cons_succ, List.length_cons, List.length_nil, List.set_cons_zero, List.set_cons_succ, ↓reduceIte, Bool.not_true, Bool.not_false, true_and, and_true, not_true_eq_false, not_false_eq_true, decide_true, decide_false, Nat.reduceEqDiff, Nat.reduceAdd, Nat.reduceMul, Nat.reducePow, Int.reduceToNat, Int.reducePow, Nat.zero_add, Nat.mul_one, Int.toNat_natCast, e0, e1, e5]
        refine ⟨_, ?_, tlQ va, vb, u', a', y :: b', o ++ [x], rfl, ?_, ?_, rfl, rfl, rfl, ?_, ?_, a2, by omega, g.chg a3 (by omega)⟩
        · first | omega | (simp; done) | (simp; omega)
        · simp at hlen ⊢; omega
        · rw [← hmrg, show mrg (x :: a') (y :: b') = x :: mrg a' (y :: b') by rw [mrg, if_pos hc]]; simp
        · exact (ha.tl (k := .i64)).2
        · exact hb
      · simp (maxSteps := 2000000) (disch := first | omega | assumption | (simp only [oneC_int, oneC_bool, oneC_str, oneC_ptr, oneC_sl, oneC_map]; done) | (simp only [List.length_cons, List.length_nil, List.length_set, List.length_map, List.length_replicate, List.length_append, List.length_take, List.length_drop, Int.toNat_natCast] <;> omega) | fail) only [Go.Rx.vi, Go.Rx.vb, Go.Rx.vstr, rxc, rxo, Nat.reduceLeDiff, List.getElem?_cons_zero, List.getElem?_cons_succ, List.length_cons, List.length_nil, List.set_cons_zero, List.set_cons_succ, ↓reduceIte, Bool.not_true, Bool.not_false, true_and, and_true, not_true_eq_false, not_false_eq_true, decide_true, decide_false, Nat.reduceEqDiff, Nat.reduceAdd, Nat.reduceMul, Nat.reducePow, Int.reduceToNat, Int.reducePow, Nat.zero_add, Nat.mul_one, Int.toNat_natCast]
        refine WC_regd0 hm ?_
        simp (maxSteps := 2000000) (disch := first | omega | assumption | (simp only [oneC_int, oneC_bool, oneC_str, oneC_ptr, oneC_sl, oneC_map]; done) | (simp only [List.length_cons, List.length_nil, List.length_set, List.length_map, List.length_replicate, List.length_append, List.length_take, List.length_drop, Int.toNat_natCast] <;> omega) | fail) only [Go.Rx.vi, Go.Rx.vb, Go.Rx.vstr, rxc, rxo, Nat.reduceLeDiff, List.getElem?_cons_zero, List.getElem?_cons_succ, List.length_cons, List.length_nil, List.set_cons_zero, List.set_cons_succ, ↓reduceIte, Bool.not_true, Bool.not_false, true_and, and_true, not_true_eq_false, not_false_eq_true, decide_true, decide_false, Nat.reduceEqDiff, Nat.reduceAdd, Nat.reduceMul, Nat.reducePow, Int.reduceToNat, Int.reducePow, Nat.zero_add, Nat.mul_one, Int.toNat_natCast, R76_5, e0, e1, e5, r1, r2, List.getD_cons_zero]
        refine WCond_dec (fun hc2 => ?_) (fun hc2 => ?_)
        · refine WC_regd hm ?_
          obtain ⟨u', h2, a1, a2, a3, a4⟩ := appI1_ex (x := y) (by omega) ho (by simp at hlen; omega)
          obtain ⟨s1, s2⟩ := ((hb.gp g).gp (Grow.refl h').new.p (h' := h'.new (.cells [.int .i64 y] 3 true))).tl (k := .i64)
          obtain ⟨s3, s4⟩ := ((hb.gp g).chg a3 (by have := hb.1; omega)).tl (k := .i64)
          have s5 := sameA_ref s4
          simp (maxSteps := 2000000) (disch := first | omega | assumption | (simp only [oneC_int, oneC_bool, oneC_str, oneC_ptr, oneC_sl, oneC_map]; done) | (simp only [List.length_cons, List.length_nil, List.length_set, List.length_map, List.length_replicate, List.length_append, List.length_take, List.length_drop, Int.toNat_natCast] <;> omega) | fail) only [Go.Rx.vi, Go.Rx.vb, Go.Rx.vstr, rxc, rxo, Nat.reduceLeDiff, List.getElem?_cons_zero, List.getElem?_cons_succ, List.length_cons, List.length_nil, List.set_cons_zero, List.set_cons_succ, ↓reduceIte, Bool.not_true, Bool.not_false, true_and, and_true, not_true_eq_false, not_false_eq_true, decide_true, decide_false, Nat.reduceEqDiff, Nat.reduceAdd, Nat.reduceMul, Nat.reducePow, Int.reduceToNat, Int.reducePow, Nat.zero_add, Nat.mul_one, Int.toNat_natCast, R76_6, rxt, e0, e1, e5, r1, r2, a1, List.getD_cons_zero, s3]
          refine ⟨staysAll_one (h1 := h'.new (.cells [.int .i64 y] 3 true)) (h2 := h2) rfl rfl (stays_on (v := tlQ vb) (h' := h'.new (.cells [.int .i64 y] 3 true)) rfl ?_ ?_) (stays_on (v := tlQ vb) (h' := h2) rfl ?_ ?_), ?_⟩
          · simp (maxSteps := 2000000) (disch := first | omega | assumption | (simp only [oneC_int, oneC_bool, oneC_str, oneC_ptr, oneC_sl, oneC_map]; done) | (simp only [List.length_cons, List.length_nil, List.length_set, List.length_map, List.length_replicate, List.length_append, List.length_take, List.length_drop, Int.toNat_natCast] <;> omega) | fail) only [Go.Rx.vi, Go.Rx.vb, Go.Rx.vstr, rxc, rxo, Nat.reduceLeDiff, List.getElem?_cons_zero, List.getElem?_cons_succ, List.length_cons, List.length_nil, List.set_cons_zero, List.set_cons_succ, ↓reduceIte, Bool.not_true, Bool.not_false, true_and, and_true, not_true_eq_false, not_false_eq_true, decide_true, decide_false, Nat.reduceEqDiff, Nat.reduceAdd, Nat.reduceMul, Nat.reducePow, Int.reduceToNat, Int.reducePow, Nat.zero_add, Nat.mul_one, Int.toNat_natCast, e0, e1, s1]
          · simp (maxSteps := 2000000) (disch := first | omega | assumption | (simp only [oneC_int, oneC_bool, oneC_str, oneC_ptr, oneC_sl, oneC_map]; done) | (simp only [List.length_cons, List.length_nil, List.length_set, List.length_map, List.length_replicate, List.length_append, List.length_take, List.length_drop, Int.toNat_natCast] <;> omega) | fail) only [Go.Rx.vi, Go.Rx.vb, Go.Rx.vstr, rxc, rxo, Nat.reduceLeDiff, List.getElem?_cons_zero, List.getElem?_cons_succ, List.length_cons, List.length_nil, List.set_cons_zero, List.set_cons_succ, ↓reduceIte, Bool.not_true, Bool.not_false, true_and, and_true, not_true_eq_false, not_false_eq_true, decide_true, decide_false, Nat.reduceEqDiff, Nat.reduceAdd, Nat.reduceMul, Nat.reducePow, Int.reduceToNat, Int.reducePow, Nat.zero_add, Nat.mul_one, Int.toNat_natCast, s5]
          · simp (maxSteps := 2000000) (disch := first | omega | assumption | (simp only [oneC_int, oneC_bool, oneC_str, oneC_ptr, oneC_sl, oneC_map]; done) | (simp only [List.length_cons, List.length_nil, List.length_set, List.length_map, List.length_replicate, List.length_append, List.length_take, List.length_drop, Int.toNat_natCast] <;> omega) | fail) only [Go.Rx.vi, Go.Rx.vb, Go.Rx.vstr, rxc, rxo, Nat.reduceLeDiff, List.getElem?_cons_zero, List.getElem?_cons_succ, List.length_cons, List.length_nil, List.set_cons_zero, List.set_cons_succ, ↓reduceIte, Bool.not_true, Bool.not_false, true_and, and_true, not_true_eq_false, not_false_eq_true, decide_true, decide_false, Nat.reduceEqDiff, Nat.reduceAdd, Nat.reduceMul, Nat.reducePow, Int.reduceToNat, Int.reducePow, Nat.zero_add, Nat.mul_one, Int.toNat_natCast, e0, e1, s3]
          · simp (maxSteps := 2000000) (disch := first | omega | assumption | (simp only [oneC_int, oneC_bool, oneC_str, oneC_ptr, oneC_sl, oneC_map]; done) | (simp only [List.length_cons, List.length_nil, List.length_set, List.length_map, List.length_replicate, List.length_append, List.length_take, List.length_drop, Int.toNat_natCast] <;> omega) | fail) only [Go.Rx.vi, Go.Rx.vb, Go.Rx.vstr, rxc, rxo, Nat.reduceLeDiff, List.getElem?_cons_zero, List.getElem?_cons_succ, List.length_cons, List.length_nil, List.set_cons_zero, List.set_cons_succ, ↓reduceIte, Bool.not_true, Bool.not_false, true_and, and_true, not_true_eq_false, not_false_eq_true, decide_true, decide_false, Nat.reduceEqDiff, Nat.reduceAdd, Nat.reduceMul, Nat.reducePow, Int.reduceToNat, Int.reducePow, Nat.zero_add, Nat.mul_one, Int.toNat_natCast, s5]
          simp (maxSteps := 2000000) (disch := first | omega | assumption | (simp only [oneC_int, oneC_bool, oneC_str, oneC_ptr, oneC_sl, oneC_map]; done) | (simp only [List.length_cons, List.length_nil, List.length_set, List.length_map, List.length_replicate, List.length_append, List.length_take, List.length_drop, Int.toNat_natCast] <;> omega) | fail) only [Go.Rx.vi, Go.Rx.vb, Go.Rx.vstr, rxc, rxo, Nat.reduceLeDiff, List.getElem?_cons_zero, List.getElem?_cons_succ, List.length_cons, List.length_nil, List.set_cons_zero, List.set_cons_succ, ↓reduceIte, Bool.not_true, Bool.not_false, true_and, and_true, not_true_eq_false, not_false_eq_true, decide_true, decide_false, Nat.reduceEqDiff, Nat.reduceAdd, Nat.reduceMul, Nat.reducePow, Int.reduceToNat, Int.reducePow, Nat.zero_add, Nat.mul_one, Int.toNat_natCast, e0, e1, e5]
          refine ⟨_, ?_, va, tlQ vb, u', x :: a', b', o ++ [y], rfl, ?_, ?_, rfl, rfl, rfl, ?_, ?_, a2, by omega, g.chg a3 (by omega)⟩
          · first | omega | (simp; done) | (simp; omega)
          · simp at hlen ⊢; omega
          · rw [← hmrg, show mrg (x :: a') (y :: b') = y :: mrg (x :: a') b' by rw [mrg, if_neg hc, if_pos hc2]]; simp
          · exact ha
          · exact (hb.tl (k := .i64)).2
        · refine WC_regd hm ?_
          obtain ⟨u', h2, a1, a2, a3, a4⟩ := appI1_ex (x := x) (by omega) ho (by simp at hlen; omega)
          obtain ⟨t1, t2⟩ := ((ha.gp g).gp (Grow.refl h').new.p (h' := h'.new (.cells [.int .i64 x] 3 true))).tl (k := .i64)
          obtain ⟨t3, t4⟩ := ((ha.gp g).chg a3 (by have := ha.1; omega)).tl (k := .i64)
          have t5 := sameA_ref t4
          obtain ⟨s1, s2⟩ := ((hb.gp g).gp (Grow.refl h').new.p (h' := h'.new (.cells [.int .i64 x] 3 true))).tl (k := .i64)
          obtain ⟨s3, s4⟩ := ((hb.gp g).chg a3 (by have := hb.1; omega)).tl (k := .i64)
          have s5 := sameA_ref s4
          simp (maxSteps := 2000000) (disch := first | omega | assumption | (simp only [oneC_int, oneC_bool, oneC_str, oneC_ptr, oneC_sl, oneC_map]; done) | (simp only [List.length_cons, List.length_nil, List.length_set, List.length_map, List.length_replicate, List.length_append, List.length_take, List.length_drop, Int.toNat_natCast] <;> omega) | fail) only [Go.Rx.vi, Go.Rx.vb, Go.Rx.vstr, rxc, rxo, Nat.reduceLeDiff, List.getElem?_cons_zero, List.getElem?_cons_succ, List.length_cons, List.length_nil, List.set_cons_zero, List.set_cons_succ, ↓reduceIte, Bool.not_true, Bool.not_false, true_and, and_true, not_true_eq_false, not_false_eq_true, decide_true, decide_false, Nat.reduceEqDiff, Nat.reduceAdd, Nat.reduceMul, Nat.reducePow, Int.reduceToNat, Int.reducePow, Nat.zero_add, Nat.mul_one, Int.toNat_natCast, R76_7, rxt, e0, e1, e5, r1, r2, a1, List.getD_cons_zero, t3, s3]
          refine ⟨staysAll_cons (h1 := h'.new (.cells [.int .i64 x] 3 true)) (h2 := h2) rfl rfl (stays_on (v := tlQ va) (h' := h'.new (.cells [.int .i64 x] 3 true)) rfl ?_ ?_) (stays_on (v := tlQ va) (h' := h2) rfl ?_ ?_) (staysAll_one (h1 := h'.new (.cells [.int .i64 x] 3 true)) (h2 := h2) rfl rfl (stays_on (v := tlQ vb) (h' := h'.new (.cells [.int .i64 x] 3 true)) rfl ?_ ?_) (stays_on (v := tlQ vb) (h' := h2) rfl ?_ ?_)), ?_⟩
          · simp (maxSteps := 2000000) (disch := first | omega | assumption | (simp only [oneC_int, oneC_bool, oneC_str, oneC_ptr, oneC_sl, oneC_map]; done) | (simp only [List.length_cons, List.length_nil, List.length_set, List.length_map, List.length_replicate, List.length_append, List.length_take, List.length_drop, Int.toNat_natCast] <;> omega) | fail) only [Go.Rx.vi, Go.Rx.vb, Go.Rx.vstr, rxc, rxo, Nat.reduceLeDiff, List.getElem?_cons_zero, List.getElem?_cons_succ, List.length_cons, List.length_nil, List.set_cons_zero, List.set_cons_succ, ↓reduceIte, Bool.not_true, Bool.not_false, true_and, and_true, not_true_eq_false, not_false_eq_true, decide_true, decide_false, Nat.reduceEqDiff, Nat.reduceAdd, Nat.reduceMul, Nat.reducePow, Int.reduceToNat, Int.reducePow, Nat.zero_add, Nat.mul_one, Int.toNat_natCast, e0, e1, t1]
          · simp (maxSteps := 2000000) (disch := first | omega | assumption | (simp only [oneC_int, oneC_bool, oneC_str, oneC_ptr, oneC_sl, oneC_map]; done) | (simp only [List.length_cons, List.length_nil, List.length_set, List.length_map, List.length_replicate, List.length_append, List.length_take, List.length_drop, Int.toNat_natCast] <;> omega) | fail) only [Go.Rx.vi, Go.Rx.vb, Go.Rx.vstr, rxc, rxo, Nat.reduceLeDiff, List.getElem?_cons_zero, List.getElem?_cons_succ, List.length_cons, List.length_nil, List.set_cons_zero, List.set_cons_succ, ↓reduceIte, Bool.not_true, Bool.not_false, true_and, and_true, not_true_eq_false, not_false_eq_true, decide_true, decide_false, Nat.reduceEqDiff, Nat.reduceAdd, Nat.reduceMul, Nat.reducePow, Int.reduceToNat, Int.reducePow, Nat.zero_add, Nat.mul_one, Int.toNat_natCast, t5]
          · simp (maxSteps := 2000000) (disch := first | omega | assumption | (simp only [oneC_int, oneC_bool, oneC_str, oneC_ptr, oneC_sl, oneC_map]; done) | (simp only [List.length_cons, List.length_nil, List.length_set, List.length_map, List.length_replicate, List.length_append, List.length_take, List.length_drop, Int.toNat_natCast] <;> omega) | fail) only [Go.Rx.vi, Go.Rx.vb, Go.Rx.vstr, rxc, rxo, Nat.reduceLeDiff, List.getElem?_cons_zero, List.getElem?_cons_succ, List.length_cons, List.length_nil, List.set_cons_zero, List.set_cons_succ, ↓reduceIte, Bool.not_true, Bool.not_false, true_and, and_true, not_true_eq_false, not_false_eq_true, decide_true, decide_false, Nat.reduceEqDiff, Nat.reduceAdd, Nat.reduceMul, Nat.reducePow, Int.reduceToNat, Int.reducePow, Nat.zero_add, Nat.mul_one, Int.toNat_natCast, e0, e1, t3]
          · simp (maxSteps := 2000000) (disch := first | omega | assumption | (simp only [oneC_int, oneC_bool, oneC_str, oneC_ptr, oneC_sl, oneC_map]; done) | (simp only [List.length_cons, List.length_nil, List.length_set, List.length_map, List.length_replicate, List.length_append, List.length_take, List.length_drop, Int.toNat_natCast] <;> omega) | fail) only [Go.Rx.vi, Go.Rx.vb, Go.Rx.vstr, rxc, rxo, Nat.reduceLeDiff, List.getElem?_cons_zero, List.getElem?_cons_succ, List.length_cons, List.length_nil, List.set_cons_zero, List.set_cons_succ, ↓reduceIte, Bool.not_true, Bool.not_false, true_and, and_true, not_true_eq_false, not_false_eq_true, decide_true, decide_false, Nat.reduceEqDiff, Nat.reduceAdd, Nat.reduceMul, Nat.reducePow, Int.reduceToNat, Int.reducePow, Nat.zero_add, Nat.mul_one, Int.toNat_natCast, t5]
          · simp (maxSteps := 2000000) (disch := first | omega | assumption | (simp only [oneC_int, oneC_bool, oneC_str, oneC_ptr, oneC_sl, oneC_map]; done) | (simp only [List.length_cons, List.length_nil, List.length_set, List.length_map, List.length_replicate, List.length_append, List.length_take, List.length_drop, Int.toNat_natCast] <;> omega) | fail) only [Go.Rx.vi, Go.Rx.vb, Go.Rx.vstr, rxc, rxo, Nat.reduceLeDiff, List.getElem?_cons_zero, List.getElem?_cons_succ, List.length_cons, List.length_nil, List.set_cons_zero, List.set_cons_succ, ↓reduceIte, Bool.not_true, Bool.not_false, true_and, and_true, not_true_eq_false, not_false_eq_true, decide_true, decide_false, Nat.reduceEqDiff, Nat.reduceAdd, Nat.reduceMul, Nat.reducePow, Int.reduceToNat, Int.reducePow, Nat.zero_add, Nat.mul_one, Int.toNat_natCast, e0, e1, s1]
          · simp (maxSteps := 2000000) (disch := first | omega | assumption | (simp only [oneC_int, oneC_bool, oneC_str, oneC_ptr, oneC_sl, oneC_map]; done) | (simp only [List.length_cons, List.length_nil, List.length_set, List.length_map, List.length_replicate, List.length_append, List.length_take, List.length_drop, Int.toNat_natCast] <;> omega) | fail) only [Go.Rx.vi, Go.Rx.vb, Go.Rx.vstr, rxc, rxo, Nat.reduceLeDiff, List.getElem?_cons_zero, List.getElem?_cons_succ, List.length_cons, List.length_nil, List.set_cons_zero, List.set_cons_succ, ↓reduceIte, Bool.not_true, Bool.not_false, true_and, and_true, not_true_eq_false, not_false_eq_true, decide_true, decide_false, Nat.reduceEqDiff, Nat.reduceAdd, Nat.reduceMul, Nat.reducePow, Int.reduceToNat, Int.reducePow, Nat.zero_add, Nat.mul_one, Int.toNat_natCast, s5]
          · simp (maxSteps := 2000000) (disch := first | omega | assumption | (simp only [oneC_int, oneC_bool, oneC_str, oneC_ptr, oneC_sl, oneC_map]; done) | (simp only [List.length_cons, List.length_nil, List.length_set, List.length_map, List.length_replicate, List.length_append, List.length_take, List.length_drop, Int.toNat_natCast] <;> omega) | fail) only [Go.Rx.vi, Go.Rx.vb, Go.Rx.vstr, rxc, rxo, Nat.reduceLeDiff, List.getElem?_cons_zero, List.getElem?_cons_succ, List.length_cons, List.length_nil, List.set_cons_zero, List.set_cons_succ, ↓reduceIte, Bool.not_true, Bool.not_false, true_and, and_true, not_true_eq_false, not_false_eq_true, decide_true, decide_false, Nat.reduceEqDiff, Nat.reduceAdd, Nat.reduceMul, Nat.reducePow, Int.reduceToNat, Int.reducePow, Nat.zero_add, Nat.mul_one, Int.toNat_natCast, e0, e1, s3]
          · simp (maxSteps := 2000000) (disch := first | omega | assumption | (simp only [oneC_int, oneC_bool, oneC_str, oneC_ptr, oneC_sl, oneC_map]; done) | (simp only [List.length_cons, List.length_nil, List.length_set, List.length_map, List.length_replicate, List.length_append, List.length_take, List.length_drop, Int.toNat_natCast] <;> omega) | fail) only [Go.Rx.vi, Go.Rx.vb, Go.Rx.vstr, rxc, rxo, Nat.reduceLeDiff, List.getElem?_cons_zero, List.getElem?_cons_succ, List.length_cons, List.length_nil, List.set_cons_zero, List.set_cons_succ, ↓reduceIte, Bool.not_true, Bool.not_false, true_and, and_true, not_true_eq_false, not_false_eq_true, decide_true, decide_false, Nat.reduceEqDiff, Nat.reduceAdd, Nat.reduceMul, Nat.reducePow, Int.reduceToNat, Int.reducePow, Nat.zero_add, Nat.mul_one, Int.toNat_natCast, s5]
          simp (maxSteps := 2000000) (disch := first | omega | assumption | (simp only [oneC_int, oneC_bool, oneC_str, oneC_ptr, oneC_sl, oneC_map]; done) | (simp only [List.length_cons, List.length_nil, List.length_set, List.length_map, List.length_replicate, List.length_append, List.length_take, List.length_drop, Int.toNat_natCast] <;> omega) | fail) only [Go.Rx.vi, Go.Rx.vb, Go.Rx.vstr, rxc, rxo, Nat.reduceLeDiff, List.getElem?_cons_zero, List.getElem?_cons_succ, List.length_cons, List.length_nil, List.set_cons_zero, List.set_cons_succ, ↓reduceIte, Bool.not_true, Bool.not_false, true_and, and_true, not_true_eq_false, not_false_eq_true, decide_true, decide_false, Nat.reduceEqDiff, Nat.reduceAdd, Nat.reduceMul, Nat.reducePow, Int.reduceToNat, Int.reducePow, Nat.zero_add, Nat.mul_one, Int.toNat_natCast, e0, e1, e5]
          refine ⟨_, ?_, tlQ va, tlQ vb, u', a', b', o ++ [x], rfl, ?_, ?_, rfl, rfl, rfl, ?_, ?_, a2, by omega, g.chg a3 (by omega)⟩
          · first | omega | (simp; done) | (simp; omega)
          · simp at hlen ⊢; omega
          · rw [← hmrg, show mrg (x :: a') (y :: b') = x :: mrg a' b' by rw [mrg, if_neg hc, if_neg hc2]]; simp
          · exact (ha.tl (k := .i64)).2
          · exact (hb.tl (k := .i64)).2
  · rintro e h' ⟨u, e5, ho, hu, g⟩
    simp (maxSteps := 2000000) (disch := first | omega | assumption | (simp only [oneC_int, oneC_bool, oneC_str, oneC_ptr, oneC_sl, oneC_map]; done) | (simp only [List.length_cons, List.length_nil, List.length_set, List.length_map, List.length_replicate, List.length_append, List.length_take, List.length_drop, Int.toNat_natCast] <;> omega) | fail) only [Go.Rx.vi, Go.Rx.vb, Go.Rx.vstr, rxc, rxo, Nat.reduceLeDiff, List.getElem?_cons_zero, List.getElem?_cons_succ, List.length_cons, List.length_nil, List.set_cons_zero, List.set_cons_succ, ↓reduceIte, Bool.not_true, Bool.not_false, true_and, and_true, not_true_eq_false, not_false_eq_true, decide_true, decide_false, Nat.reduceEqDiff, Nat.reduceAdd, Nat.reduceMul, Nat.reducePow, Int.reduceToNat, Int.reducePow, Nat.zero_add, Nat.mul_one, Int.toNat_natCast, R76_8, e5]
    exact hk _ _ ho g hu
end Go.Rx

namespace Go.Rx
variable {M : Mach}
set_option maxRecDepth 4000
set_option linter.unusedSimpArgs false
set_option linter.unusedVariables false

inductive Star (R : Nat → Nat → Prop) : Nat → Nat → Prop
  | refl (i : Nat) : Star R i i
  | step {i m j : Nat} (h : R i m) (hs : Star R m j) : Star R i j
theorem Star.snoc {R : Nat → Nat → Prop} {i m j : Nat} (hs : Star R i m) (h : R m j) : Star R i j := by
  induction hs with
  | refl i => exact .step h (.refl _)
  | step h1 _ ih => exact .step h1 (ih h)

mutual
def Mt (t : List UInt8) : RegD → Nat → Nat → Prop
  | .mk k s ps, i, j => (k = 1 ∧ i = j) ∨ (k = 2 ∧ j = i + 1 ∧ i < t.length ∧ hasS s (t.getD i 0).toNat = true) ∨ (k = 3 ∧ SeqM t ps i j) ∨ (k = 4 ∧ AnyM t ps i j) ∨ (k = 7 ∧ (i = j ∨ HdM t ps i j)) ∨ (k = 6 ∧ ∃ m, HdM t ps i m ∧ Star (fun a b => HdM t ps a b) m j) ∨ (k = 5 ∧ Star (fun a b => HdM t ps a b) i j)
def SeqM (t : List UInt8) : List RegD → Nat → Nat → Prop
  | [], i, j => i = j
  | p :: ps, i, j => ∃ m, Mt t p i m ∧ SeqM t ps m j
def AnyM (t : List UInt8) : List RegD → Nat → Nat → Prop
  | [], _, _ => False
  | p :: ps, i, j => Mt t p i j ∨ AnyM t ps i j
def HdM (t : List UInt8) : List RegD → Nat → Nat → Prop
  | [], _, _ => False
  | p :: _, i, j => Mt t p i j
end

theorem SeqM_snoc {t : List UInt8} {p : RegD} : ∀ {ps : List RegD} {i j : Nat}, SeqM t (ps ++ [p]) i j ↔ ∃ m, SeqM t ps i m ∧ Mt t p m j
  | [], i, j => by simp [SeqM]
  | q :: ps, i, j => by
    rw [List.cons_append, SeqM]
    constructor
    · rintro ⟨m, h1, h2⟩
      obtain ⟨m', h3, h4⟩ := SeqM_snoc.1 h2
      exact ⟨m', by rw [SeqM]; exact ⟨m, h1, h3⟩, h4⟩
    · rintro ⟨m, h1, h2⟩
      rw [SeqM] at h1
      obtain ⟨m', h3, h4⟩ := h1
      exact ⟨m', h3, SeqM_snoc.2 ⟨m, h4, h2⟩⟩
theorem AnyM_snoc {t : List UInt8} {p : RegD} : ∀ {ps : List RegD} {i j : Nat}, AnyM t (ps ++ [p]) i j ↔ AnyM t ps i j ∨ Mt t p i j
  | [], i, j => by simp [AnyM]
  | q :: ps, i, j => by rw [List.cons_append, AnyM, AnyM_snoc, AnyM, or_assoc]

/-- Places in a text of n bytes, rising. -/
structure Pos (n : Nat) (l : List Int) : Prop where
  rise : Rise l
  lo : ∀ x ∈ l, 0 ≤ x ∧ x ≤ n
theorem rise_len : ∀ {l : List Int} {a b : Int}, Rise l → (∀ x ∈ l, a ≤ x ∧ x ≤ b) → (l.length : Int) ≤ max 0 (b - a + 1)
  | [], a, b, _, _ => by simp; omega
  | x :: l, a, b, hr, hb => by
    have h1 := List.pairwise_cons.1 hr
    have hx := hb x (by simp)
    have := rise_len (l := l) (a := x + 1) (b := b) h1.2 (fun y hy => ⟨by have := h1.1 y hy; omega, (hb y (by simp [hy])).2⟩)
    simp only [List.length_cons]
    omega
theorem Pos.len {n : Nat} {l : List Int} (p : Pos n l) : l.length ≤ n + 1 := by
  have := rise_len p.rise p.lo
  omega
theorem Pos.mrg {n : Nat} {a b : List Int} (p : Pos n a) (q : Pos n b) : Pos n (mrg a b) := ⟨mrg_rise p.rise q.rise, fun x hx => by
  rcases (mrg_mem _ _).1 hx with h | h
  · exact p.lo x h
  · exact q.lo x h⟩
theorem mrg_disj : ∀ (a b : List Int), (∀ z ∈ b, ¬ z ∈ a) → (mrg a b).length = a.length + b.length
  | [], b, _ => by simp [mrg]
  | x :: a, [], _ => by simp [mrg]
  | x :: a, y :: b, h => by
    rw [mrg]
    split
    · rw [List.length_cons, mrg_disj a (y :: b) (fun z hz hza => h z hz (by simp [hza]))]; simp only [List.length_cons]; omega
    · split
      · rw [List.length_cons, mrg_disj (x :: a) b (fun z hz => h z (by simp [hz]))]; simp only [List.length_cons]; omega
      · have hxy : y = x := by omega
        exact absurd (by simp [hxy]) (h y (by simp))
termination_by a b => a.length + b.length

/-- What comes of places by a relation. -/
def Img (R : Nat → Nat → Prop) (l l' : List Int) : Prop := ∀ j : Nat, (j : Int) ∈ l' ↔ ∃ i : Nat, (i : Int) ∈ l ∧ R i j

/-- The contract of ends, of one pattern. -/
def EndsC (M : Mach) (t : List UInt8) (r : RegD) : Prop := ∀ {cs : List Value} {v : Value} {l : List Int} {h : Heap} {K : KF}, 1 ≤ h.next → RegC h r cs → IV h v l → Pos t.length l →
  (∀ v' l' h', IV h' v' l' → Pos t.length l' → Img (Mt t r) l l' → GrowP h h' → K v' h') → WF M 52 [.agg ⟨cs⟩, vstr t, v] h K

theorem again_ok (hm : M.Mono) (m : BsF M) (hO77 : M.O 77 = none) (hF77 : M.F 77 = some A77) (hO91 : M.O 91 = none) (hF91 : M.F 91 = some A91) (hO92 : M.O 92 = none) (hF92 : M.F 92 = some A92) (hO76 : M.O 76 = none) (hF76 : M.F 76 = some A76)
  {t : List UInt8} (ht : t.length ≤ 100000) {r : RegD} (hE : EndsC M t r) {cs : List Value} {v : Value} {l : List Int} {h : Heap} {K : KF} (h1 : 1 ≤ h.next) (hr : RegC h r cs) (hv : IV h v l) (hp : Pos t.length l)
  (hk : ∀ v' l' h', IV h' v' l' → Pos t.length l' → Img (Star (Mt t r)) l l' → GrowP h h' → K v' h') : WF M 77 [.agg ⟨cs⟩, vstr t, v] h K := by
  rw [WF_eqT 9 hO77 hF77]
  obtain ⟨q1, q2, q3, pv, pss, q4, q5, q6⟩ := hr.b
  simp (maxSteps := 2000000) (disch := first | omega | assumption | (simp only [oneC_int, oneC_bool, oneC_str, oneC_ptr, oneC_sl, oneC_map]; done) | (simp only [List.length_cons, List.length_nil, List.length_set, List.length_map, List.length_replicate, List.length_append, List.length_take, List.length_drop, Int.toNat_natCast] <;> omega) | fail) only [Go.Rx.vi, Go.Rx.vb, Go.Rx.vstr, rxc, rxo, Nat.reduceLeDiff, List.getElem?_cons_zero, List.getElem?_cons_succ, List.length_cons, List.length_nil, List.set_cons_zero, List.set_cons_succ, ↓reduceIte, Bool.not_true, Bool.not_false, true_and, and_true, not_true_eq_false, not_false_eq_true, decide_true, decide_false, Nat.reduceEqDiff, Nat.reduceAdd, Nat.reduceMul, Nat.reducePow, Int.reduceToNat, Int.reducePow, Nat.zero_add, Nat.mul_one, Int.toNat_natCast, A77, R77_0, q1]
  obtain ⟨h2, e2, g2, n2, b2⟩ := boxed h cs 48
  rw [e2]
  have hpl := hp.len
  simp (maxSteps := 2000000) (disch := first | omega | assumption | (simp only [oneC_int, oneC_bool, oneC_str, oneC_ptr, oneC_sl, oneC_map]; done) | (simp only [List.length_cons, List.length_nil, List.length_set, List.length_map, List.length_replicate, List.length_append, List.length_take, List.length_drop, Int.toNat_natCast] <;> omega) | fail) only [Go.Rx.vi, Go.Rx.vb, Go.Rx.vstr, rxc, rxo, Nat.reduceLeDiff, List.getElem?_cons_zero, List.getElem?_cons_succ, List.length_cons, List.length_nil, List.set_cons_zero, List.set_cons_succ, ↓reduceIte, Bool.not_true, Bool.not_false, true_and, and_true, not_true_eq_false, not_false_eq_true, decide_true, decide_false, Nat.reduceEqDiff, Nat.reduceAdd, Nat.reduceMul, Nat.reducePow, Int.reduceToNat, Int.reducePow, Nat.zero_add, Nat.mul_one, Int.toNat_natCast, R77_1]
  refine clone_ok hO91 hF91 (by omega) (hv.gp g2) (by omega) ?_
  intro va h3 oa g3 ba
  have b3 : h3.at h.next = _ := (g3.at_ _ h1 (by omega)).trans b2
  have n3 := g3.next
  simp (maxSteps := 2000000) (disch := first | omega | assumption | (simp only [oneC_int, oneC_bool, oneC_str, oneC_ptr, oneC_sl, oneC_map]; done) | (simp only [List.length_cons, List.length_nil, List.length_set, List.length_map, List.length_replicate, List.length_append, List.length_take, List.length_drop, Int.toNat_natCast] <;> omega) | fail) only [Go.Rx.vi, Go.Rx.vb, Go.Rx.vstr, rxc, rxo, Nat.reduceLeDiff, List.getElem?_cons_zero, List.getElem?_cons_succ, List.length_cons, List.length_nil, List.set_cons_zero, List.set_cons_succ, ↓reduceIte, Bool.not_true, Bool.not_false, true_and, and_true, not_true_eq_false, not_false_eq_true, decide_true, decide_false, Nat.reduceEqDiff, Nat.reduceAdd, Nat.reduceMul, Nat.reducePow, Int.reduceToNat, Int.reducePow, Nat.zero_add, Nat.mul_one, Int.toNat_natCast, R77_2]
  refine WC_bloop 9 (fun mm e h' => ∃ (va vn : Value) (al nl : List Int), mm = 2 * (t.length + 1 - al.length) + (if nl = [] then 0 else 1) ∧ e.g 1 = vstr t ∧ e.g 3 = .pointer (some ⟨h.next, 0, none⟩) ∧ e.g 7 = va ∧ e.g 8 = vn ∧ IO h' va al ∧ IV h' vn nl ∧ Pos t.length al ∧ Pos t.length nl ∧ (bno va = 0 ∨ h2.next ≤ bno va) ∧ (bno vn ≠ bno va ∨ bno vn = 0) ∧
      (∀ x ∈ l, x ∈ al) ∧ (∀ x ∈ nl, x ∈ al) ∧ (∀ j : Nat, (j : Int) ∈ al → ∃ i : Nat, (i : Int) ∈ l ∧ Star (Mt t r) i j) ∧ (∀ i j : Nat, (i : Int) ∈ al → ¬ (i : Int) ∈ nl → Mt t r i j → (j : Int) ∈ al) ∧ GrowP h2 h')
    (fun e h' => ∃ (va : Value) (al : List Int), e.g 7 = va ∧ IO h' va al ∧ Pos t.length al ∧ Img (Star (Mt t r)) l al ∧ GrowP h2 h') ?_ ?_ ?_
  · refine ⟨_, va, v, l, l, rfl, ?_, ?_, ?_, ?_, oa, (hv.gp g2).gp g3, hp, hp, ba, ?_, fun x hx => hx, fun x hx => hx, fun j hj => ⟨j, hj, .refl _⟩, fun i j h1 h2 => absurd h1 h2, g3⟩
    · simp (maxSteps := 2000000) (disch := first | omega | assumption | (simp only [oneC_int, oneC_bool, oneC_str, oneC_ptr, oneC_sl, oneC_map]; done) | (simp only [List.length_cons, List.length_nil, List.length_set, List.length_map, List.length_replicate, List.length_append, List.length_take, List.length_drop, Int.toNat_natCast] <;> omega) | fail) only [Go.Rx.vi, Go.Rx.vb, Go.Rx.vstr, rxc, rxo, Nat.reduceLeDiff, List.getElem?_cons_zero, List.getElem?_cons_succ, List.length_cons, List.length_nil, List.set_cons_zero, List.set_cons_succ, ↓reduceIte, Bool.not_true, Bool.not_false, true_and, and_true, not_true_eq_false, not_false_eq_true, decide_true, decide_false, Nat.reduceEqDiff, Nat.reduceAdd, Nat.reduceMul, Nat.reducePow, Int.reduceToNat, Int.reducePow, Nat.zero_add, Nat.mul_one, Int.toNat_natCast]
    · simp (maxSteps := 2000000) (disch := first | omega | assumption | (simp only [oneC_int, oneC_bool, oneC_str, oneC_ptr, oneC_sl, oneC_map]; done) | (simp only [List.length_cons, List.length_nil, List.length_set, List.length_map, List.length_replicate, List.length_append, List.length_take, List.length_drop, Int.toNat_natCast] <;> omega) | fail) only [Go.Rx.vi, Go.Rx.vb, Go.Rx.vstr, rxc, rxo, Nat.reduceLeDiff, List.getElem?_cons_zero, List.getElem?_cons_succ, List.length_cons, List.length_nil, List.set_cons_zero, List.set_cons_succ, ↓reduceIte, Bool.not_true, Bool.not_false, true_and, and_true, not_true_eq_false, not_false_eq_true, decide_true, decide_false, Nat.reduceEqDiff, Nat.reduceAdd, Nat.reduceMul, Nat.reducePow, Int.reduceToNat, Int.reducePow, Nat.zero_add, Nat.mul_one, Int.toNat_natCast]
    · simp (maxSteps := 2000000) (disch := first | omega | assumption | (simp only [oneC_int, oneC_bool, oneC_str, oneC_ptr, oneC_sl, oneC_map]; done) | (simp only [List.length_cons, List.length_nil, List.length_set, List.length_map, List.length_replicate, List.length_append, List.length_take, List.length_drop, Int.toNat_natCast] <;> omega) | fail) only [Go.Rx.vi, Go.Rx.vb, Go.Rx.vstr, rxc, rxo, Nat.reduceLeDiff, List.getElem?_cons_zero, List.getElem?_cons_succ, List.length_cons, List.length_nil, List.set_cons_zero, List.set_cons_succ, ↓reduceIte, Bool.not_true, Bool.not_false, true_and, and_true, not_true_eq_false, not_false_eq_true, decide_true, decide_false, Nat.reduceEqDiff, Nat.reduceAdd, Nat.reduceMul, Nat.reducePow, Int.reduceToNat, Int.reducePow, Nat.zero_add, Nat.mul_one, Int.toNat_natCast]
    · simp (maxSteps := 2000000) (disch := first | omega | assumption | (simp only [oneC_int, oneC_bool, oneC_str, oneC_ptr, oneC_sl, oneC_map]; done) | (simp only [List.length_cons, List.length_nil, List.length_set, List.length_map, List.length_replicate, List.length_append, List.length_take, List.length_drop, Int.toNat_natCast] <;> omega) | fail) only [Go.Rx.vi, Go.Rx.vb, Go.Rx.vstr, rxc, rxo, Nat.reduceLeDiff, List.getElem?_cons_zero, List.getElem?_cons_succ, List.length_cons, List.length_nil, List.set_cons_zero, List.set_cons_succ, ↓reduceIte, Bool.not_true, Bool.not_false, true_and, and_true, not_true_eq_false, not_false_eq_true, decide_true, decide_false, Nat.reduceEqDiff, Nat.reduceAdd, Nat.reduceMul, Nat.reducePow, Int.reduceToNat, Int.reducePow, Nat.zero_add, Nat.mul_one, Int.toNat_natCast]
    · have := hv.1; omega
  · rintro mm e h' ⟨va, vn, al, nl, rfl, e1, e3, e7, e8, oa, on, pa, pn, ba, bn, i1, i2, i3, i4, g⟩
    have b4 : h'.at h.next = _ := (g.at_ _ h1 (by omega)).trans b2
    have r1 := on.r
    have gn := g.next
    have pal := pa.len
    simp (maxSteps := 2000000) (disch := first | omega | assumption | (simp only [oneC_int, oneC_bool, oneC_str, oneC_ptr, oneC_sl, oneC_map]; done) | (simp only [List.length_cons, List.length_nil, List.length_set, List.length_map, List.length_replicate, List.length_append, List.length_take, List.length_drop, Int.toNat_natCast] <;> omega) | fail) only [Go.Rx.vi, Go.Rx.vb, Go.Rx.vstr, rxc, rxo, Nat.reduceLeDiff, List.getElem?_cons_zero, List.getElem?_cons_succ, List.length_cons, List.length_nil, List.set_cons_zero, List.set_cons_succ, ↓reduceIte, Bool.not_true, Bool.not_false, true_and, and_true, not_true_eq_false, not_false_eq_true, decide_true, decide_false, Nat.reduceEqDiff, Nat.reduceAdd, Nat.reduceMul, Nat.reducePow, Int.reduceToNat, Int.reducePow, Nat.zero_add, Nat.mul_one, Int.toNat_natCast, B77_0, R77_3, e8, r1]
    refine WCond_dec (fun hc => ?_) (fun hc => ?_)
    · have hnl : ¬ nl = [] := by rintro rfl; simp at hc
      simp (maxSteps := 2000000) (disch := first | omega | assumption | (simp only [oneC_int, oneC_bool, oneC_str, oneC_ptr, oneC_sl, oneC_map]; done) | (simp only [List.length_cons, List.length_nil, List.length_set, List.length_map, List.length_replicate, List.length_append, List.length_take, List.length_drop, Int.toNat_natCast] <;> omega) | fail) only [Go.Rx.vi, Go.Rx.vb, Go.Rx.vstr, rxc, rxo, Nat.reduceLeDiff, List.getElem?_cons_zero, List.getElem?_cons_succ, List.length_cons, List.length_nil, List.set_cons_zero, List.set_cons_succ, ↓reduceIte, Bool.not_true, Bool.not_false, true_and, and_true, not_true_eq_false, not_false_eq_true, decide_true, decide_false, Nat.reduceEqDiff, Nat.reduceAdd, Nat.reduceMul, Nat.reducePow, Int.reduceToNat, Int.reducePow, Nat.zero_add, Nat.mul_one, Int.toNat_natCast, R77_4, e1, e3, e7, e8, b4, q1, cut_all q1]
      refine hE (by omega) ((hr.gp g2).gp g) on pn ?_
      intro vx xl h4 ox px ix g4
      have n4 := g4.next
      have pxl := px.len
      simp (maxSteps := 2000000) (disch := first | omega | assumption | (simp only [oneC_int, oneC_bool, oneC_str, oneC_ptr, oneC_sl, oneC_map]; done) | (simp only [List.length_cons, List.length_nil, List.length_set, List.length_map, List.length_replicate, List.length_append, List.length_take, List.length_drop, Int.toNat_natCast] <;> omega) | fail) only [Go.Rx.vi, Go.Rx.vb, Go.Rx.vstr, rxc, rxo, Nat.reduceLeDiff, List.getElem?_cons_zero, List.getElem?_cons_succ, List.length_cons, List.length_nil, List.set_cons_zero, List.set_cons_succ, ↓reduceIte, Bool.not_true, Bool.not_false, true_and, and_true, not_true_eq_false, not_false_eq_true, decide_true, decide_false, Nat.reduceEqDiff, Nat.reduceAdd, Nat.reduceMul, Nat.reducePow, Int.reduceToNat, Int.reducePow, Nat.zero_add, Nat.mul_one, Int.toNat_natCast, e7]
      refine fresh_ok hm m hO92 hF92 (by omega) ox (oa.gp g4).v pa.rise (by omega) (by omega) ?_
      intro vf h5 of g5 bf
      have n5 := g5.next
      generalize hnl' : xl.filter (fun x => decide (¬ x ∈ al)) = nl' at of
      have memn : ∀ x, x ∈ nl' ↔ x ∈ xl ∧ ¬ x ∈ al := by
        intro x
        rw [← hnl', List.mem_filter, decide_eq_true_iff]
      have pn' : Pos t.length nl' := ⟨by rw [← hnl']; exact px.rise.filter _, fun x hx => px.lo x ((memn x).1 hx).1⟩
      have pnl' := pn'.len
      have laws : ∀ al' : List Int, (∀ x, x ∈ al' ↔ x ∈ al ∨ x ∈ nl') → al'.length = al.length + nl'.length → Pos t.length al' →
          (2 * (t.length + 1 - al'.length) + (if nl' = [] then 0 else 1) < 2 * (t.length + 1 - al.length) + (if nl = [] then 0 else 1)) ∧ (∀ x ∈ l, x ∈ al') ∧ (∀ x ∈ nl', x ∈ al') ∧ (∀ j : Nat, (j : Int) ∈ al' → ∃ i : Nat, (i : Int) ∈ l ∧ Star (Mt t r) i j) ∧ (∀ i j : Nat, (i : Int) ∈ al' → ¬ (i : Int) ∈ nl' → Mt t r i j → (j : Int) ∈ al') := by
        intro al' hmem hlen pal'
        have hle := pal'.len
        refine ⟨?_, fun x hx => (hmem x).2 (.inl (i1 x hx)), fun x hx => (hmem x).2 (.inr hx), ?_, ?_⟩
        · rw [if_neg hnl]
          by_cases he : nl' = []
          · rw [if_pos he]; subst he; simp at hlen; omega
          · rw [if_neg he]
            have : 0 < nl'.length := List.length_pos_iff.2 he
            omega
        · intro j hj
          rcases (hmem _).1 hj with hj | hj
          · exact i3 j hj
          · obtain ⟨i, hi, hmt⟩ := (ix j).1 ((memn _).1 hj).1
            obtain ⟨i0, hi0, hs⟩ := i3 i (i2 _ hi)
            exact ⟨i0, hi0, hs.snoc hmt⟩
        · intro i j hi hni hmt
          have hia : (i : Int) ∈ al := by
            rcases (hmem _).1 hi with hi | hi
            · exact hi
            · exact absurd hi hni
          refine (hmem _).2 ?_
          by_cases hin : (i : Int) ∈ nl
          · by_cases hja : (j : Int) ∈ al
            · exact .inl hja
            · exact .inr ((memn _).2 ⟨(ix j).2 ⟨i, hin, hmt⟩, hja⟩)
          · exact .inl (i4 i j hia hin hmt)
      have oa5 := (oa.gp g4).gp g5
      have r5 := oa5.v.r
      have r6 := of.v.r
      have gg := (g.trans g4).trans g5
      have disj : ∀ z ∈ nl', ¬ z ∈ al := fun z hz => ((memn z).1 hz).2
      have hbva := oa.1
      have hbvf := of.1
      simp (maxSteps := 2000000) (disch := first | omega | assumption | (simp only [oneC_int, oneC_bool, oneC_str, oneC_ptr, oneC_sl, oneC_map]; done) | (simp only [List.length_cons, List.length_nil, List.length_set, List.length_map, List.length_replicate, List.length_append, List.length_take, List.length_drop, Int.toNat_natCast] <;> omega) | fail) only [Go.Rx.vi, Go.Rx.vb, Go.Rx.vstr, rxc, rxo, Nat.reduceLeDiff, List.getElem?_cons_zero, List.getElem?_cons_succ, List.length_cons, List.length_nil, List.set_cons_zero, List.set_cons_succ, ↓reduceIte, Bool.not_true, Bool.not_false, true_and, and_true, not_true_eq_false, not_false_eq_true, decide_true, decide_false, Nat.reduceEqDiff, Nat.reduceAdd, Nat.reduceMul, Nat.reducePow, Int.reduceToNat, Int.reducePow, Nat.zero_add, Nat.mul_one, Int.toNat_natCast]
      refine WC_regd0 hm ?_
      simp (maxSteps := 2000000) (disch := first | omega | assumption | (simp only [oneC_int, oneC_bool, oneC_str, oneC_ptr, oneC_sl, oneC_map]; done) | (simp only [List.length_cons, List.length_nil, List.length_set, List.length_map, List.length_replicate, List.length_append, List.length_take, List.length_drop, Int.toNat_natCast] <;> omega) | fail) only [Go.Rx.vi, Go.Rx.vb, Go.Rx.vstr, rxc, rxo, Nat.reduceLeDiff, List.getElem?_cons_zero, List.getElem?_cons_succ, List.length_cons, List.length_nil, List.set_cons_zero, List.set_cons_succ, ↓reduceIte, Bool.not_true, Bool.not_false, true_and, and_true, not_true_eq_false, not_false_eq_true, decide_true, decide_false, Nat.reduceEqDiff, Nat.reduceAdd, Nat.reduceMul, Nat.reducePow, Int.reduceToNat, Int.reducePow, Nat.zero_add, Nat.mul_one, Int.toNat_natCast, R77_5, e7, r5, r6]
      by_cases hz : 0 < nl'.length
      · have hal0 : 0 < al.length := by
          have hmem : nl'.getD 0 0 ∈ nl' := mem_getD.2 ⟨0, hz, rfl⟩
          obtain ⟨hx1, hx2⟩ := (memn _).1 hmem
          have hxlo := px.lo _ hx1
          obtain ⟨i, hi, _⟩ := (ix (nl'.getD 0 0).toNat).1 (by rw [Int.toNat_of_nonneg hxlo.1]; exact hx1)
          have := i2 _ hi
          exact List.length_pos_iff.2 (by rintro rfl; simp at this)
        have hlast : ((al.length : Int) - 1).toNat = al.length - 1 := by omega
        simp (maxSteps := 2000000) (disch := first | omega | assumption | (simp only [oneC_int, oneC_bool, oneC_str, oneC_ptr, oneC_sl, oneC_map]; done) | (simp only [List.length_cons, List.length_nil, List.length_set, List.length_map, List.length_replicate, List.length_append, List.length_take, List.length_drop, Int.toNat_natCast] <;> omega) | fail) only [Go.Rx.vi, Go.Rx.vb, Go.Rx.vstr, rxc, rxo, Nat.reduceLeDiff, List.getElem?_cons_zero, List.getElem?_cons_succ, List.length_cons, List.length_nil, List.set_cons_zero, List.set_cons_succ, ↓reduceIte, Bool.not_true, Bool.not_false, true_and, and_true, not_true_eq_false, not_false_eq_true, decide_true, decide_false, Nat.reduceEqDiff, Nat.reduceAdd, Nat.reduceMul, Nat.reducePow, Int.reduceToNat, Int.reducePow, Nat.zero_add, Nat.mul_one, Int.toNat_natCast, e7, r5, r6, hlast]
        refine WCond_dec (fun hlt => ?_) (fun hlt => ?_)
        · obtain ⟨v', h6, a1, a2, a3, a4⟩ := appI_ex (by omega) oa5 of.v (by omega)
          have n6 := a3.next
          simp (maxSteps := 2000000) (disch := first | omega | assumption | (simp only [oneC_int, oneC_bool, oneC_str, oneC_ptr, oneC_sl, oneC_map]; done) | (simp only [List.length_cons, List.length_nil, List.length_set, List.length_map, List.length_replicate, List.length_append, List.length_take, List.length_drop, Int.toNat_natCast] <;> omega) | fail) only [Go.Rx.vi, Go.Rx.vb, Go.Rx.vstr, rxc, rxo, Nat.reduceLeDiff, List.getElem?_cons_zero, List.getElem?_cons_succ, List.length_cons, List.length_nil, List.set_cons_zero, List.set_cons_succ, ↓reduceIte, Bool.not_true, Bool.not_false, true_and, and_true, not_true_eq_false, not_false_eq_true, decide_true, decide_false, Nat.reduceEqDiff, Nat.reduceAdd, Nat.reduceMul, Nat.reducePow, Int.reduceToNat, Int.reducePow, Nat.zero_add, Nat.mul_one, Int.toNat_natCast, R77_6, e1, e3, e7, a1]
          have hpos : Pos t.length (al ++ nl') := by
            refine ⟨List.pairwise_append.2 ⟨pa.rise, pn'.rise, ?_⟩, ?_⟩
            · intro x hx y hy
              obtain ⟨i, hi, rfl⟩ := mem_getD.1 hx
              obtain ⟨j, hj, rfl⟩ := mem_getD.1 hy
              have e1 : al.getD i 0 ≤ al.getD (al.length - 1) 0 := by
                by_cases h : i = al.length - 1
                · rw [h]; exact Int.le_refl _
                · exact Int.le_of_lt (pa.rise.lt (by omega) (by omega))
              have e2 : nl'.getD 0 0 ≤ nl'.getD j 0 := by
                by_cases h : j = 0
                · rw [h]; exact Int.le_refl _
                · exact Int.le_of_lt (pn'.rise.lt (by omega) hj)
              omega
            · intro x hx
              rcases List.mem_append.1 hx with hx | hx
              · exact pa.lo x hx
              · exact pn'.lo x hx
          obtain ⟨l1, l2, l3, l4, l5⟩ := laws (al ++ nl') (fun x => List.mem_append) (by simp) hpos
          refine ⟨_, l1, v', vf, al ++ nl', nl', rfl, rfl, rfl, a2, of.v.chg a3 ?_, hpos, pn', ?_, ?_, l2, l3, l4, l5, gg.chg a3 (by omega)⟩
          · omega
          · omega
          · omega
        · simp (maxSteps := 2000000) (disch := first | omega | assumption | (simp only [oneC_int, oneC_bool, oneC_str, oneC_ptr, oneC_sl, oneC_map]; done) | (simp only [List.length_cons, List.length_nil, List.length_set, List.length_map, List.length_replicate, List.length_append, List.length_take, List.length_drop, Int.toNat_natCast] <;> omega) | fail) only [Go.Rx.vi, Go.Rx.vb, Go.Rx.vstr, rxc, rxo, Nat.reduceLeDiff, List.getElem?_cons_zero, List.getElem?_cons_succ, List.length_cons, List.length_nil, List.set_cons_zero, List.set_cons_succ, ↓reduceIte, Bool.not_true, Bool.not_false, true_and, and_true, not_true_eq_false, not_false_eq_true, decide_true, decide_false, Nat.reduceEqDiff, Nat.reduceAdd, Nat.reduceMul, Nat.reducePow, Int.reduceToNat, Int.reducePow, Nat.zero_add, Nat.mul_one, Int.toNat_natCast]
          simp (maxSteps := 2000000) (disch := first | omega | assumption | (simp only [oneC_int, oneC_bool, oneC_str, oneC_ptr, oneC_sl, oneC_map]; done) | (simp only [List.length_cons, List.length_nil, List.length_set, List.length_map, List.length_replicate, List.length_append, List.length_take, List.length_drop, Int.toNat_natCast] <;> omega) | fail) only [Go.Rx.vi, Go.Rx.vb, Go.Rx.vstr, rxc, rxo, Nat.reduceLeDiff, List.getElem?_cons_zero, List.getElem?_cons_succ, List.length_cons, List.length_nil, List.set_cons_zero, List.set_cons_succ, ↓reduceIte, Bool.not_true, Bool.not_false, true_and, and_true, not_true_eq_false, not_false_eq_true, decide_true, decide_false, Nat.reduceEqDiff, Nat.reduceAdd, Nat.reduceMul, Nat.reducePow, Int.reduceToNat, Int.reducePow, Nat.zero_add, Nat.mul_one, Int.toNat_natCast, R77_7, e1, e3, e7]
          refine both_ok hm hO76 hF76 (by omega) oa5.v of.v (by omega) (by omega) ?_
          intro v' h6 ob gb bb
          have n6 := gb.next
          obtain ⟨l1, l2, l3, l4, l5⟩ := laws (mrg al nl') (fun x => mrg_mem _ _) (mrg_disj _ _ disj) (pa.mrg pn')
          simp (maxSteps := 2000000) (disch := first | omega | assumption | (simp only [oneC_int, oneC_bool, oneC_str, oneC_ptr, oneC_sl, oneC_map]; done) | (simp only [List.length_cons, List.length_nil, List.length_set, List.length_map, List.length_replicate, List.length_append, List.length_take, List.length_drop, Int.toNat_natCast] <;> omega) | fail) only [Go.Rx.vi, Go.Rx.vb, Go.Rx.vstr, rxc, rxo, Nat.reduceLeDiff, List.getElem?_cons_zero, List.getElem?_cons_succ, List.length_cons, List.length_nil, List.set_cons_zero, List.set_cons_succ, ↓reduceIte, Bool.not_true, Bool.not_false, true_and, and_true, not_true_eq_false, not_false_eq_true, decide_true, decide_false, Nat.reduceEqDiff, Nat.reduceAdd, Nat.reduceMul, Nat.reducePow, Int.reduceToNat, Int.reducePow, Nat.zero_add, Nat.mul_one, Int.toNat_natCast, e1, e3, e7]
          refine ⟨_, l1, v', vf, mrg al nl', nl', rfl, rfl, rfl, ob, of.v.gp gb, pa.mrg pn', pn', ?_, ?_, l2, l3, l4, l5, gg.trans gb⟩
          · omega
          · omega
      · have hz0 : ¬ (0 : Int) < nl'.length := by omega
        simp only [hz0, decide_false]
        simp (maxSteps := 2000000) (disch := first | omega | assumption | (simp only [oneC_int, oneC_bool, oneC_str, oneC_ptr, oneC_sl, oneC_map]; done) | (simp only [List.length_cons, List.length_nil, List.length_set, List.length_map, List.length_replicate, List.length_append, List.length_take, List.length_drop, Int.toNat_natCast] <;> omega) | fail) only [Go.Rx.vi, Go.Rx.vb, Go.Rx.vstr, rxc, rxo, Nat.reduceLeDiff, List.getElem?_cons_zero, List.getElem?_cons_succ, List.length_cons, List.length_nil, List.set_cons_zero, List.set_cons_succ, ↓reduceIte, Bool.not_true, Bool.not_false, true_and, and_true, not_true_eq_false, not_false_eq_true, decide_true, decide_false, Nat.reduceEqDiff, Nat.reduceAdd, Nat.reduceMul, Nat.reducePow, Int.reduceToNat, Int.reducePow, Nat.zero_add, Nat.mul_one, Int.toNat_natCast, R77_7, e1, e3, e7]
        refine both_ok hm hO76 hF76 (by omega) oa5.v of.v (by omega) (by omega) ?_
        intro v' h6 ob gb bb
        have n6 := gb.next
        obtain ⟨l1, l2, l3, l4, l5⟩ := laws (mrg al nl') (fun x => mrg_mem _ _) (mrg_disj _ _ disj) (pa.mrg pn')
        simp (maxSteps := 2000000) (disch := first | omega | assumption | (simp only [oneC_int, oneC_bool, oneC_str, oneC_ptr, oneC_sl, oneC_map]; done) | (simp only [List.length_cons, List.length_nil, List.length_set, List.length_map, List.length_replicate, List.length_append, List.length_take, List.length_drop, Int.toNat_natCast] <;> omega) | fail) only [Go.Rx.vi, Go.Rx.vb, Go.Rx.vstr, rxc, rxo, Nat.reduceLeDiff, List.getElem?_cons_zero, List.getElem?_cons_succ, List.length_cons, List.length_nil, List.set_cons_zero, List.set_cons_succ, ↓reduceIte, Bool.not_true, Bool.not_false, true_and, and_true, not_true_eq_false, not_false_eq_true, decide_true, decide_false, Nat.reduceEqDiff, Nat.reduceAdd, Nat.reduceMul, Nat.reducePow, Int.reduceToNat, Int.reducePow, Nat.zero_add, Nat.mul_one, Int.toNat_natCast, e1, e3, e7]
        refine ⟨_, l1, v', vf, mrg al nl', nl', rfl, rfl, rfl, ob, of.v.gp gb, pa.mrg pn', pn', ?_, ?_, l2, l3, l4, l5, gg.trans gb⟩
        · omega
        · omega
    · simp (maxSteps := 2000000) (disch := first | omega | assumption | (simp only [oneC_int, oneC_bool, oneC_str, oneC_ptr, oneC_sl, oneC_map]; done) | (simp only [List.length_cons, List.length_nil, List.length_set, List.length_map, List.length_replicate, List.length_append, List.length_take, List.length_drop, Int.toNat_natCast] <;> omega) | fail) only [Go.Rx.vi, Go.Rx.vb, Go.Rx.vstr, rxc, rxo, Nat.reduceLeDiff, List.getElem?_cons_zero, List.getElem?_cons_succ, List.length_cons, List.length_nil, List.set_cons_zero, List.set_cons_succ, ↓reduceIte, Bool.not_true, Bool.not_false, true_and, and_true, not_true_eq_false, not_false_eq_true, decide_true, decide_false, Nat.reduceEqDiff, Nat.reduceAdd, Nat.reduceMul, Nat.reducePow, Int.reduceToNat, Int.reducePow, Nat.zero_add, Nat.mul_one, Int.toNat_natCast, e7]
      have hnl : nl = [] := List.length_eq_zero_iff.1 (by omega)
      subst hnl
      refine ⟨va, al, rfl, oa, pa, ?_, g⟩
      intro j
      constructor
      · exact i3 j
      · rintro ⟨i, hi, hs⟩
        have : ∀ {i j : Nat}, Star (Mt t r) i j → (i : Int) ∈ al → (j : Int) ∈ al := by
          intro i j hs
          induction hs with
          | refl _ => exact id
          | step hh _ ih => intro ha; exact ih (i4 _ _ ha (by simp) hh)
        exact this hs (i1 _ hi)
  · rintro e h' ⟨va, al, e7, oa, pa, im, g⟩
    simp (maxSteps := 2000000) (disch := first | omega | assumption | (simp only [oneC_int, oneC_bool, oneC_str, oneC_ptr, oneC_sl, oneC_map]; done) | (simp only [List.length_cons, List.length_nil, List.length_set, List.length_map, List.length_replicate, List.length_append, List.length_take, List.length_drop, Int.toNat_natCast] <;> omega) | fail) only [Go.Rx.vi, Go.Rx.vb, Go.Rx.vstr, rxc, rxo, Nat.reduceLeDiff, List.getElem?_cons_zero, List.getElem?_cons_succ, List.length_cons, List.length_nil, List.set_cons_zero, List.set_cons_succ, ↓reduceIte, Bool.not_true, Bool.not_false, true_and, and_true, not_true_eq_false, not_false_eq_true, decide_true, decide_false, Nat.reduceEqDiff, Nat.reduceAdd, Nat.reduceMul, Nat.reducePow, Int.reduceToNat, Int.reducePow, Nat.zero_add, Nat.mul_one, Int.toNat_natCast, R77_8, e7]
    exact hk _ _ _ oa.v pa im (g2.trans g)
end Go.Rx
