/- Contracts of functions of the given program, over the abstract machine. -/
import Derived.Test.YtabhplelhjcdiaaRh2
namespace Go.Rx
variable {M : Mach}
set_option maxRecDepth 4000
set_option linter.unusedSimpArgs false
set_option linter.unusedVariables false

structure EndsF (M : Mach) : Prop where
  mono : M.Mono
  bs : BsF M
  o52 : M.O 52 = none
  f52 : M.F 52 = some A52
  o75 : M.O 75 = none
  f75 : M.F 75 = some A75
  o76 : M.O 76 = none
  f76 : M.F 76 = some A76
  o77 : M.O 77 = none
  f77 : M.F 77 = some A77
  o91 : M.O 91 = none
  f91 : M.F 91 = some A91
  o92 : M.O 92 = none
  f92 : M.F 92 = some A92

theorem Pos.nil {n : Nat} : Pos n [] := ⟨List.Pairwise.nil, fun x hx => by simp at hx⟩
theorem Pos.get {n : Nat} {l : List Int} (p : Pos n l) {i : Nat} (hi : i < l.length) : l.getD i 0 ∈ l ∧ 0 ≤ l.getD i 0 ∧ l.getD i 0 ≤ n := by
  have hm : l.getD i 0 ∈ l := mem_getD.2 ⟨i, hi, rfl⟩
  exact ⟨hm, p.lo _ hm⟩
/-- What comes of places by a byte of a set. -/
def setL (t : List UInt8) (s : List Int) (l : List Int) : List Int := (l.filter fun (x : Int) => decide (x < t.length) && hasS s (t.getD x.toNat 0).toNat).map (· + 1)
theorem setL_len {t : List UInt8} {s l : List Int} : (setL t s l).length ≤ l.length := by
  unfold setL
  rw [List.length_map]
  exact List.length_filter_le _ _
theorem setL_app {t : List UInt8} {s l : List Int} {x : Int} : setL t s (l ++ [x]) = setL t s l ++ (if (decide (x < t.length) && hasS s (t.getD x.toNat 0).toNat) = true then [x + 1] else []) := by
  unfold setL
  rw [List.filter_append, List.map_append]
  congr 1
  by_cases hc : (decide (x < t.length) && hasS s (t.getD x.toNat 0).toNat) = true
  · rw [if_pos hc, List.filter_cons_of_pos (p := fun (x : Int) => decide (x < t.length) && hasS s (t.getD x.toNat 0).toNat) hc]; rfl
  · rw [if_neg hc, List.filter_cons_of_neg (p := fun (x : Int) => decide (x < t.length) && hasS s (t.getD x.toNat 0).toNat) hc]; rfl
theorem setL_mem {t : List UInt8} {s l : List Int} {y : Int} : y ∈ setL t s l ↔ ∃ x ∈ l, y = x + 1 ∧ x < t.length ∧ hasS s (t.getD x.toNat 0).toNat = true := by
  unfold setL
  rw [List.mem_map]
  constructor
  · rintro ⟨x, hx, rfl⟩
    rw [List.mem_filter, Bool.and_eq_true, decide_eq_true_iff] at hx
    exact ⟨x, hx.1, rfl, hx.2⟩
  · rintro ⟨x, hx, rfl, h1, h2⟩
    exact ⟨x, List.mem_filter.2 ⟨hx, by rw [Bool.and_eq_true, decide_eq_true_iff]; exact ⟨h1, h2⟩⟩, rfl⟩
theorem setL_pos {t : List UInt8} {s l : List Int} (p : Pos t.length l) : Pos t.length (setL t s l) := by
  refine ⟨?_, fun y hy => ?_⟩
  · unfold setL Rise
    rw [List.pairwise_map]
    exact (p.rise.filter _).imp (fun h => by omega)
  · obtain ⟨x, hx, rfl, h1, _⟩ := setL_mem.1 hy
    have := p.lo x hx
    omega
theorem Mt_kind {t : List UInt8} {k : Int} {s : List Int} {ps : List RegD} {i j : Nat} : Mt t (.mk k s ps) i j ↔ (k = 1 ∧ i = j) ∨ (k = 2 ∧ j = i + 1 ∧ i < t.length ∧ hasS s (t.getD i 0).toNat = true) ∨ (k = 3 ∧ SeqM t ps i j) ∨ (k = 4 ∧ AnyM t ps i j) ∨ (k = 7 ∧ (i = j ∨ HdM t ps i j)) ∨ (k = 6 ∧ ∃ m, HdM t ps i m ∧ Star (fun a b => HdM t ps a b) m j) ∨ (k = 5 ∧ Star (fun a b => HdM t ps a b) i j) := by rw [Mt]

theorem RegC.same {h : Heap} {r : RegD} {cs : List Value} (hr : RegC h r cs) : sameA (.agg ⟨cs⟩) (.agg ⟨cs⟩) = true := by
  obtain ⟨s0, s1, s2, s3, v, css, rfl, hs, hk1, hs1, hv, hl'⟩ := hr.parts
  have h1 : sameV v v = true := by
    have := sameA_ref hv
    obtain ⟨_, _, ⟨rfl, _⟩ | ⟨b, off, sp, c, cs, e, rw', rfl, _⟩⟩ := hv <;> exact this
  show (sameV (.int .i64 r.kind) (.int .i64 r.kind) && (sameV (.int .u64 s0) (.int .u64 s0) && (sameV (.int .u64 s1) (.int .u64 s1) && (sameV (.int .u64 s2) (.int .u64 s2) && (sameV (.int .u64 s3) (.int .u64 s3) && (sameV v v && true)))))) = true
  have hi : ∀ (k : IntKind) (n : Int), sameV (.int k n) (.int k n) = true := fun k n => sameA_int
  simp [hi, h1]
set_option maxHeartbeats 4000000 in
theorem ends_ok (m : EndsF M) {t : List UInt8} (ht : t.length ≤ 100000) (r : RegD) : r.may = true → r.size < 1000000 → EndsC M t r := by
  refine RegD.ind (P := fun r => r.may = true → r.size < 1000000 → EndsC M t r) ?_ r
  intro k s ps ih hmay hsz cs v l h K h1 hr hv hp hk
  rw [WF_eqT 14 m.o52 m.f52]
  obtain ⟨q1, q2, q3, pv, pss, q4, q5, q6⟩ := hr.b
  obtain ⟨z1, z2, z3⟩ := hr.cutSet
  rw [RegD.parts] at q6
  rw [RegD.kind] at q3
  rw [RegD.set] at z1 z2 z3
  rw [RegD.size] at hsz
  rw [RegD.may, Bool.and_eq_true, Bool.and_eq_true] at hmay
  obtain ⟨⟨hok, _⟩, hmps⟩ := hmay
  have hok := of_decide_eq_true (p := ((k = 0 ∨ k = 1 ∨ k = 2) ∧ ps.length = 0 ∨ (k = 3 ∨ k = 4) ∧ 1 ≤ ps.length ∨ (k = 5 ∨ k = 6 ∨ k = 7) ∧ ps.length = 1)) hok
  have hmps := mayR_all.1 hmps
  have hpl := (RegL.iff.1 q6).1
  have hsl := sizeR_len ps
  have hll := hp.len
  have IH : ∀ p, p ∈ ps → EndsC M t p := fun p hp => by
    obtain ⟨i, hi⟩ := mem_get hp
    have := sizeR_get hi
    intro cs' v' l' h' K'
    exact ih p hp (hmps p hp) (by omega)
  simp (maxSteps := 2000000) (disch := first | omega | assumption | (simp only [oneC_int, oneC_bool, oneC_str, oneC_ptr, oneC_sl, oneC_map]; done) | (simp only [List.length_cons, List.length_nil, List.length_set, List.length_map, List.length_replicate, List.length_append, List.length_take, List.length_drop, Int.toNat_natCast] <;> omega) | fail) only [Go.Rx.vi, Go.Rx.vb, Go.Rx.vstr, rxc, rxo, Nat.reduceLeDiff, List.getElem?_cons_zero, List.getElem?_cons_succ, List.length_cons, List.length_nil, List.set_cons_zero, List.set_cons_succ, ↓reduceIte, Bool.not_true, Bool.not_false, true_and, and_true, not_true_eq_false, not_false_eq_true, decide_true, decide_false, Nat.reduceEqDiff, Nat.reduceAdd, Nat.reduceMul, Nat.reducePow, Int.reduceToNat, Int.reducePow, Nat.zero_add, Nat.mul_one, Int.toNat_natCast, A52, R52_0, q1]
  obtain ⟨h2, e2, g2, n2, b2⟩ := boxed h cs 48
  rw [e2]
  have rv := (hv.gp g2).r
  simp (maxSteps := 2000000) (disch := first | omega | assumption | (simp only [oneC_int, oneC_bool, oneC_str, oneC_ptr, oneC_sl, oneC_map]; done) | (simp only [List.length_cons, List.length_nil, List.length_set, List.length_map, List.length_replicate, List.length_append, List.length_take, List.length_drop, Int.toNat_natCast] <;> omega) | fail) only [Go.Rx.vi, Go.Rx.vb, Go.Rx.vstr, rxc, rxo, Nat.reduceLeDiff, List.getElem?_cons_zero, List.getElem?_cons_succ, List.length_cons, List.length_nil, List.set_cons_zero, List.set_cons_succ, ↓reduceIte, Bool.not_true, Bool.not_false, true_and, and_true, not_true_eq_false, not_false_eq_true, decide_true, decide_false, Nat.reduceEqDiff, Nat.reduceAdd, Nat.reduceMul, Nat.reducePow, Int.reduceToNat, Int.reducePow, Nat.zero_add, Nat.mul_one, Int.toNat_natCast, R52_1, R52_2, b2, q3, R52_3]
  refine WCond_dec (fun hk1 => ?_) (fun hk1 => ?_)
  · simp (maxSteps := 2000000) (disch := first | omega | assumption | (simp only [oneC_int, oneC_bool, oneC_str, oneC_ptr, oneC_sl, oneC_map]; done) | (simp only [List.length_cons, List.length_nil, List.length_set, List.length_map, List.length_replicate, List.length_append, List.length_take, List.length_drop, Int.toNat_natCast] <;> omega) | fail) only [Go.Rx.vi, Go.Rx.vb, Go.Rx.vstr, rxc, rxo, Nat.reduceLeDiff, List.getElem?_cons_zero, List.getElem?_cons_succ, List.length_cons, List.length_nil, List.set_cons_zero, List.set_cons_succ, ↓reduceIte, Bool.not_true, Bool.not_false, true_and, and_true, not_true_eq_false, not_false_eq_true, decide_true, decide_false, Nat.reduceEqDiff, Nat.reduceAdd, Nat.reduceMul, Nat.reducePow, Int.reduceToNat, Int.reducePow, Nat.zero_add, Nat.mul_one, Int.toNat_natCast, R52_4]
    exact hk _ l _ (hv.gp g2) hp (fun j => by
      constructor
      · intro hj; exact ⟨j, hj, Mt_kind.2 (.inl ⟨hk1, rfl⟩)⟩
      · rintro ⟨i, hi, hmt⟩
        rcases Mt_kind.1 hmt with h | h | h | h | h | h | h
        · rw [← h.2]; exact hi
        all_goals omega) g2
  simp (maxSteps := 2000000) (disch := first | omega | assumption | (simp only [oneC_int, oneC_bool, oneC_str, oneC_ptr, oneC_sl, oneC_map]; done) | (simp only [List.length_cons, List.length_nil, List.length_set, List.length_map, List.length_replicate, List.length_append, List.length_take, List.length_drop, Int.toNat_natCast] <;> omega) | fail) only [Go.Rx.vi, Go.Rx.vb, Go.Rx.vstr, rxc, rxo, Nat.reduceLeDiff, List.getElem?_cons_zero, List.getElem?_cons_succ, List.length_cons, List.length_nil, List.set_cons_zero, List.set_cons_succ, ↓reduceIte, Bool.not_true, Bool.not_false, true_and, and_true, not_true_eq_false, not_false_eq_true, decide_true, decide_false, Nat.reduceEqDiff, Nat.reduceAdd, Nat.reduceMul, Nat.reducePow, Int.reduceToNat, Int.reducePow, Nat.zero_add, Nat.mul_one, Int.toNat_natCast, R52_5]
  refine WCond_dec (fun hk2 => ?_) (fun hk2 => ?_)
  · simp (maxSteps := 2000000) (disch := first | omega | assumption | (simp only [oneC_int, oneC_bool, oneC_str, oneC_ptr, oneC_sl, oneC_map]; done) | (simp only [List.length_cons, List.length_nil, List.length_set, List.length_map, List.length_replicate, List.length_append, List.length_take, List.length_drop, Int.toNat_natCast] <;> omega) | fail) only [Go.Rx.vi, Go.Rx.vb, Go.Rx.vstr, rxc, rxo, Nat.reduceLeDiff, List.getElem?_cons_zero, List.getElem?_cons_succ, List.length_cons, List.length_nil, List.set_cons_zero, List.set_cons_succ, ↓reduceIte, Bool.not_true, Bool.not_false, true_and, and_true, not_true_eq_false, not_false_eq_true, decide_true, decide_false, Nat.reduceEqDiff, Nat.reduceAdd, Nat.reduceMul, Nat.reducePow, Int.reduceToNat, Int.reducePow, Nat.zero_add, Nat.mul_one, Int.toNat_natCast, R52_6, rv]
    refine WC_bloop 14 (fun mm e h' => ∃ (i : Nat) (u : Value), mm = l.length - i ∧ i ≤ l.length ∧ e.g 1 = vstr t ∧ e.g 3 = .pointer (some ⟨h.next, 0, none⟩) ∧ e.g 7 = u ∧ e.g 21 = v ∧ e.g 22 = .int .i64 l.length ∧ e.g 23 = .int .i64 i ∧ (bno u = 0 ∨ h2.next ≤ bno u) ∧ IO h' u (setL t s (l.take i)) ∧ GrowP h2 h')
      (fun e h' => ∃ (u : Value), e.g 7 = u ∧ IO h' u (setL t s l) ∧ GrowP h2 h') ?_ ?_ ?_
    · refine ⟨_, 0, .slice none 0 0, rfl, by omega, ?_, ?_, ?_, ?_, ?_, ?_, .inl rfl, IO.nil (by omega), .refl _⟩
      · simp (maxSteps := 2000000) (disch := first | omega | assumption | (simp only [oneC_int, oneC_bool, oneC_str, oneC_ptr, oneC_sl, oneC_map]; done) | (simp only [List.length_cons, List.length_nil, List.length_set, List.length_map, List.length_replicate, List.length_append, List.length_take, List.length_drop, Int.toNat_natCast] <;> omega) | fail) only [Go.Rx.vi, Go.Rx.vb, Go.Rx.vstr, rxc, rxo, Nat.reduceLeDiff, List.getElem?_cons_zero, List.getElem?_cons_succ, List.length_cons, List.length_nil, List.set_cons_zero, List.set_cons_succ, ↓reduceIte, Bool.not_true, Bool.not_false, true_and, and_true, not_true_eq_false, not_false_eq_true, decide_true, decide_false, Nat.reduceEqDiff, Nat.reduceAdd, Nat.reduceMul, Nat.reducePow, Int.reduceToNat, Int.reducePow, Nat.zero_add, Nat.mul_one, Int.toNat_natCast]
      · simp (maxSteps := 2000000) (disch := first | omega | assumption | (simp only [oneC_int, oneC_bool, oneC_str, oneC_ptr, oneC_sl, oneC_map]; done) | (simp only [List.length_cons, List.length_nil, List.length_set, List.length_map, List.length_replicate, List.length_append, List.length_take, List.length_drop, Int.toNat_natCast] <;> omega) | fail) only [Go.Rx.vi, Go.Rx.vb, Go.Rx.vstr, rxc, rxo, Nat.reduceLeDiff, List.getElem?_cons_zero, List.getElem?_cons_succ, List.length_cons, List.length_nil, List.set_cons_zero, List.set_cons_succ, ↓reduceIte, Bool.not_true, Bool.not_false, true_and, and_true, not_true_eq_false, not_false_eq_true, decide_true, decide_false, Nat.reduceEqDiff, Nat.reduceAdd, Nat.reduceMul, Nat.reducePow, Int.reduceToNat, Int.reducePow, Nat.zero_add, Nat.mul_one, Int.toNat_natCast]
      · simp (maxSteps := 2000000) (disch := first | omega | assumption | (simp only [oneC_int, oneC_bool, oneC_str, oneC_ptr, oneC_sl, oneC_map]; done) | (simp only [List.length_cons, List.length_nil, List.length_set, List.length_map, List.length_replicate, List.length_append, List.length_take, List.length_drop, Int.toNat_natCast] <;> omega) | fail) only [Go.Rx.vi, Go.Rx.vb, Go.Rx.vstr, rxc, rxo, Nat.reduceLeDiff, List.getElem?_cons_zero, List.getElem?_cons_succ, List.length_cons, List.length_nil, List.set_cons_zero, List.set_cons_succ, ↓reduceIte, Bool.not_true, Bool.not_false, true_and, and_true, not_true_eq_false, not_false_eq_true, decide_true, decide_false, Nat.reduceEqDiff, Nat.reduceAdd, Nat.reduceMul, Nat.reducePow, Int.reduceToNat, Int.reducePow, Nat.zero_add, Nat.mul_one, Int.toNat_natCast]
      · simp (maxSteps := 2000000) (disch := first | omega | assumption | (simp only [oneC_int, oneC_bool, oneC_str, oneC_ptr, oneC_sl, oneC_map]; done) | (simp only [List.length_cons, List.length_nil, List.length_set, List.length_map, List.length_replicate, List.length_append, List.length_take, List.length_drop, Int.toNat_natCast] <;> omega) | fail) only [Go.Rx.vi, Go.Rx.vb, Go.Rx.vstr, rxc, rxo, Nat.reduceLeDiff, List.getElem?_cons_zero, List.getElem?_cons_succ, List.length_cons, List.length_nil, List.set_cons_zero, List.set_cons_succ, ↓reduceIte, Bool.not_true, Bool.not_false, true_and, and_true, not_true_eq_false, not_false_eq_true, decide_true, decide_false, Nat.reduceEqDiff, Nat.reduceAdd, Nat.reduceMul, Nat.reducePow, Int.reduceToNat, Int.reducePow, Nat.zero_add, Nat.mul_one, Int.toNat_natCast]
      · simp (maxSteps := 2000000) (disch := first | omega | assumption | (simp only [oneC_int, oneC_bool, oneC_str, oneC_ptr, oneC_sl, oneC_map]; done) | (simp only [List.length_cons, List.length_nil, List.length_set, List.length_map, List.length_replicate, List.length_append, List.length_take, List.length_drop, Int.toNat_natCast] <;> omega) | fail) only [Go.Rx.vi, Go.Rx.vb, Go.Rx.vstr, rxc, rxo, Nat.reduceLeDiff, List.getElem?_cons_zero, List.getElem?_cons_succ, List.length_cons, List.length_nil, List.set_cons_zero, List.set_cons_succ, ↓reduceIte, Bool.not_true, Bool.not_false, true_and, and_true, not_true_eq_false, not_false_eq_true, decide_true, decide_false, Nat.reduceEqDiff, Nat.reduceAdd, Nat.reduceMul, Nat.reducePow, Int.reduceToNat, Int.reducePow, Nat.zero_add, Nat.mul_one, Int.toNat_natCast]
      · simp (maxSteps := 2000000) (disch := first | omega | assumption | (simp only [oneC_int, oneC_bool, oneC_str, oneC_ptr, oneC_sl, oneC_map]; done) | (simp only [List.length_cons, List.length_nil, List.length_set, List.length_map, List.length_replicate, List.length_append, List.length_take, List.length_drop, Int.toNat_natCast] <;> omega) | fail) only [Go.Rx.vi, Go.Rx.vb, Go.Rx.vstr, rxc, rxo, Nat.reduceLeDiff, List.getElem?_cons_zero, List.getElem?_cons_succ, List.length_cons, List.length_nil, List.set_cons_zero, List.set_cons_succ, ↓reduceIte, Bool.not_true, Bool.not_false, true_and, and_true, not_true_eq_false, not_false_eq_true, decide_true, decide_false, Nat.reduceEqDiff, Nat.reduceAdd, Nat.reduceMul, Nat.reducePow, Int.reduceToNat, Int.reducePow, Nat.zero_add, Nat.mul_one, Int.toNat_natCast]; rfl
    · rintro mm e h' ⟨i, u, rfl, hi, e1, e3, e7, e21, e22, e23, bu, ou, g⟩
      have b3 : h'.at h.next = _ := (g.at_ _ h1 (by omega)).trans b2
      have r1 := ((hv.gp g2).gp g).r
      have gn := g.next
      simp (maxSteps := 2000000) (disch := first | omega | assumption | (simp only [oneC_int, oneC_bool, oneC_str, oneC_ptr, oneC_sl, oneC_map]; done) | (simp only [List.length_cons, List.length_nil, List.length_set, List.length_map, List.length_replicate, List.length_append, List.length_take, List.length_drop, Int.toNat_natCast] <;> omega) | fail) only [Go.Rx.vi, Go.Rx.vb, Go.Rx.vstr, rxc, rxo, Nat.reduceLeDiff, List.getElem?_cons_zero, List.getElem?_cons_succ, List.length_cons, List.length_nil, List.set_cons_zero, List.set_cons_succ, ↓reduceIte, Bool.not_true, Bool.not_false, true_and, and_true, not_true_eq_false, not_false_eq_true, decide_true, decide_false, Nat.reduceEqDiff, Nat.reduceAdd, Nat.reduceMul, Nat.reducePow, Int.reduceToNat, Int.reducePow, Nat.zero_add, Nat.mul_one, Int.toNat_natCast, B52_0, R52_7, e22, e23]
      refine WCond_dec (fun hc => ?_) (fun hc => ?_)
      · simp (maxSteps := 2000000) (disch := first | omega | assumption | (simp only [oneC_int, oneC_bool, oneC_str, oneC_ptr, oneC_sl, oneC_map]; done) | (simp only [List.length_cons, List.length_nil, List.length_set, List.length_map, List.length_replicate, List.length_append, List.length_take, List.length_drop, Int.toNat_natCast] <;> omega) | fail) only [Go.Rx.vi, Go.Rx.vb, Go.Rx.vstr, rxc, rxo, Nat.reduceLeDiff, List.getElem?_cons_zero, List.getElem?_cons_succ, List.length_cons, List.length_nil, List.set_cons_zero, List.set_cons_succ, ↓reduceIte, Bool.not_true, Bool.not_false, true_and, and_true, not_true_eq_false, not_false_eq_true, decide_true, decide_false, Nat.reduceEqDiff, Nat.reduceAdd, Nat.reduceMul, Nat.reducePow, Int.reduceToNat, Int.reducePow, Nat.zero_add, Nat.mul_one, Int.toNat_natCast, R52_8, e21, e23, r1]
        refine WC_regd0 m.mono ?_
        obtain ⟨x1, x2, x3⟩ := hp.get (i := i) (by omega)
        have htk : l.take (i + 1) = l.take i ++ [l.getD i 0] := by
          rw [List.take_add_one, List.getD_eq_getElem?_getD, List.getElem?_eq_getElem (by omega)]; rfl
        have hsll := setL_len (t := t) (s := s) (l := l.take i)
        rw [List.length_take] at hsll
        generalize hxx : l.getD i 0 = x at *
        simp (maxSteps := 2000000) (disch := first | omega | assumption | (simp only [oneC_int, oneC_bool, oneC_str, oneC_ptr, oneC_sl, oneC_map]; done) | (simp only [List.length_cons, List.length_nil, List.length_set, List.length_map, List.length_replicate, List.length_append, List.length_take, List.length_drop, Int.toNat_natCast] <;> omega) | fail) only [Go.Rx.vi, Go.Rx.vb, Go.Rx.vstr, rxc, rxo, Nat.reduceLeDiff, List.getElem?_cons_zero, List.getElem?_cons_succ, List.length_cons, List.length_nil, List.set_cons_zero, List.set_cons_succ, ↓reduceIte, Bool.not_true, Bool.not_false, true_and, and_true, not_true_eq_false, not_false_eq_true, decide_true, decide_false, Nat.reduceEqDiff, Nat.reduceAdd, Nat.reduceMul, Nat.reducePow, Int.reduceToNat, Int.reducePow, Nat.zero_add, Nat.mul_one, Int.toNat_natCast, R52_9, e1, e3, e7, e21, e22, e23]
        have next : ∀ (u' : Value) (h4 : Heap) (e : Env), IO h4 u' (setL t s (l.take (i + 1))) → (bno u' = 0 ∨ h2.next ≤ bno u') → GrowP h2 h4 → e.g 1 = vstr t → e.g 3 = .pointer (some ⟨h.next, 0, none⟩) → e.g 7 = u' → e.g 21 = v → e.g 22 = .int .i64 l.length → e.g 23 = .int .i64 i →
            WB M R52_11 e h4 (BLoopK M (fun mm e h' => ∃ (i : Nat) (u : Value), mm = l.length - i ∧ i ≤ l.length ∧ e.g 1 = vstr t ∧ e.g 3 = .pointer (some ⟨h.next, 0, none⟩) ∧ e.g 7 = u ∧ e.g 21 = v ∧ e.g 22 = .int .i64 l.length ∧ e.g 23 = .int .i64 i ∧ (bno u = 0 ∨ h2.next ≤ bno u) ∧ IO h' u (setL t s (l.take i)) ∧ GrowP h2 h')
              (l.length - i) 1 (fun e h' => ∃ (u : Value), e.g 7 = u ∧ IO h' u (setL t s l) ∧ GrowP h2 h') (BlockK 0 (SeqK M (.seq (.reg R52_31) .ret) (FunK [(6, none)] K))) .normal) := by
          intro u' h4 e o4 b4 g4 e1 e3 e7 e21 e22 e23
          rw [← TE_nil (n := 14) (e := e)]
          simp (maxSteps := 2000000) (disch := first | omega | assumption | (simp only [oneC_int, oneC_bool, oneC_str, oneC_ptr, oneC_sl, oneC_map]; done) | (simp only [List.length_cons, List.length_nil, List.length_set, List.length_map, List.length_replicate, List.length_append, List.length_take, List.length_drop, Int.toNat_natCast] <;> omega) | fail) only [Go.Rx.vi, Go.Rx.vb, Go.Rx.vstr, rxc, rxo, Nat.reduceLeDiff, List.getElem?_cons_zero, List.getElem?_cons_succ, List.length_cons, List.length_nil, List.set_cons_zero, List.set_cons_succ, ↓reduceIte, Bool.not_true, Bool.not_false, true_and, and_true, not_true_eq_false, not_false_eq_true, decide_true, decide_false, Nat.reduceEqDiff, Nat.reduceAdd, Nat.reduceMul, Nat.reducePow, Int.reduceToNat, Int.reducePow, Nat.zero_add, Nat.mul_one, Int.toNat_natCast, R52_11, e1, e3, e7, e21, e22, e23]
          refine ⟨_, ?_, i + 1, u', rfl, by omega, rfl, ?_, b4, o4, g4⟩
          · omega
          · simp
        by_cases hxl : x < t.length
        · simp only [hxl, decide_true]
          simp (maxSteps := 2000000) (disch := first | omega | assumption | (simp only [oneC_int, oneC_bool, oneC_str, oneC_ptr, oneC_sl, oneC_map]; done) | (simp only [List.length_cons, List.length_nil, List.length_set, List.length_map, List.length_replicate, List.length_append, List.length_take, List.length_drop, Int.toNat_natCast] <;> omega) | fail) only [Go.Rx.vi, Go.Rx.vb, Go.Rx.vstr, rxc, rxo, Nat.reduceLeDiff, List.getElem?_cons_zero, List.getElem?_cons_succ, List.length_cons, List.length_nil, List.set_cons_zero, List.set_cons_succ, ↓reduceIte, Bool.not_true, Bool.not_false, true_and, and_true, not_true_eq_false, not_false_eq_true, decide_true, decide_false, Nat.reduceEqDiff, Nat.reduceAdd, Nat.reduceMul, Nat.reducePow, Int.reduceToNat, Int.reducePow, Nat.zero_add, Nat.mul_one, Int.toNat_natCast, e1, e3, b3, z1]
          refine has_ok m.o75 m.f75 z2 z3 (c := (t.getD x.toNat 0).toNat) (UInt8.toNat_lt _) ?_
          intro h4 g4
          have n4 := g4.next
          cases hh : hasS s (t.getD x.toNat 0).toNat with
          | true =>
            obtain ⟨u', h5, a1, a2, a3, a4⟩ := appI1_ex (x := x + 1) (by omega) (ou.gp g4) (by omega)
            simp (maxSteps := 2000000) (disch := first | omega | assumption | (simp only [oneC_int, oneC_bool, oneC_str, oneC_ptr, oneC_sl, oneC_map]; done) | (simp only [List.length_cons, List.length_nil, List.length_set, List.length_map, List.length_replicate, List.length_append, List.length_take, List.length_drop, Int.toNat_natCast] <;> omega) | fail) only [Go.Rx.vi, Go.Rx.vb, Go.Rx.vstr, rxc, rxo, Nat.reduceLeDiff, List.getElem?_cons_zero, List.getElem?_cons_succ, List.length_cons, List.length_nil, List.set_cons_zero, List.set_cons_succ, ↓reduceIte, Bool.not_true, Bool.not_false, true_and, and_true, not_true_eq_false, not_false_eq_true, decide_true, decide_false, Nat.reduceEqDiff, Nat.reduceAdd, Nat.reduceMul, Nat.reducePow, Int.reduceToNat, Int.reducePow, Nat.zero_add, Nat.mul_one, Int.toNat_natCast, R52_10, e7, a1]
            refine next u' h5 _ ?_ (by omega) ((g.trans g4).chg a3 (by omega)) (by simp (maxSteps := 2000000) (disch := first | omega | assumption | (simp only [oneC_int, oneC_bool, oneC_str, oneC_ptr, oneC_sl, oneC_map]; done) | (simp only [List.length_cons, List.length_nil, List.length_set, List.length_map, List.length_replicate, List.length_append, List.length_take, List.length_drop, Int.toNat_natCast] <;> omega) | fail) only [Go.Rx.vi, Go.Rx.vb, Go.Rx.vstr, rxc, rxo, Nat.reduceLeDiff, List.getElem?_cons_zero, List.getElem?_cons_succ, List.length_cons, List.length_nil, List.set_cons_zero, List.set_cons_succ, ↓reduceIte, Bool.not_true, Bool.not_false, true_and, and_true, not_true_eq_false, not_false_eq_true, decide_true, decide_false, Nat.reduceEqDiff, Nat.reduceAdd, Nat.reduceMul, Nat.reducePow, Int.reduceToNat, Int.reducePow, Nat.zero_add, Nat.mul_one, Int.toNat_natCast, e1]) (by simp (maxSteps := 2000000) (disch := first | omega | assumption | (simp only [oneC_int, oneC_bool, oneC_str, oneC_ptr, oneC_sl, oneC_map]; done) | (simp only [List.length_cons, List.length_nil, List.length_set, List.length_map, List.length_replicate, List.length_append, List.length_take, List.length_drop, Int.toNat_natCast] <;> omega) | fail) only [Go.Rx.vi, Go.Rx.vb, Go.Rx.vstr, rxc, rxo, Nat.reduceLeDiff, List.getElem?_cons_zero, List.getElem?_cons_succ, List.length_cons, List.length_nil, List.set_cons_zero, List.set_cons_succ, ↓reduceIte, Bool.not_true, Bool.not_false, true_and, and_true, not_true_eq_false, not_false_eq_true, decide_true, decide_false, Nat.reduceEqDiff, Nat.reduceAdd, Nat.reduceMul, Nat.reducePow, Int.reduceToNat, Int.reducePow, Nat.zero_add, Nat.mul_one, Int.toNat_natCast, e3]) (by simp (maxSteps := 2000000) (disch := first | omega | assumption | (simp only [oneC_int, oneC_bool, oneC_str, oneC_ptr, oneC_sl, oneC_map]; done) | (simp only [List.length_cons, List.length_nil, List.length_set, List.length_map, List.length_replicate, List.length_append, List.length_take, List.length_drop, Int.toNat_natCast] <;> omega) | fail) only [Go.Rx.vi, Go.Rx.vb, Go.Rx.vstr, rxc, rxo, Nat.reduceLeDiff, List.getElem?_cons_zero, List.getElem?_cons_succ, List.length_cons, List.length_nil, List.set_cons_zero, List.set_cons_succ, ↓reduceIte, Bool.not_true, Bool.not_false, true_and, and_true, not_true_eq_false, not_false_eq_true, decide_true, decide_false, Nat.reduceEqDiff, Nat.reduceAdd, Nat.reduceMul, Nat.reducePow, Int.reduceToNat, Int.reducePow, Nat.zero_add, Nat.mul_one, Int.toNat_natCast]) (by simp (maxSteps := 2000000) (disch := first | omega | assumption | (simp only [oneC_int, oneC_bool, oneC_str, oneC_ptr, oneC_sl, oneC_map]; done) | (simp only [List.length_cons, List.length_nil, List.length_set, List.length_map, List.length_replicate, List.length_append, List.length_take, List.length_drop, Int.toNat_natCast] <;> omega) | fail) only [Go.Rx.vi, Go.Rx.vb, Go.Rx.vstr, rxc, rxo, Nat.reduceLeDiff, List.getElem?_cons_zero, List.getElem?_cons_succ, List.length_cons, List.length_nil, List.set_cons_zero, List.set_cons_succ, ↓reduceIte, Bool.not_true, Bool.not_false, true_and, and_true, not_true_eq_false, not_false_eq_true, decide_true, decide_false, Nat.reduceEqDiff, Nat.reduceAdd, Nat.reduceMul, Nat.reducePow, Int.reduceToNat, Int.reducePow, Nat.zero_add, Nat.mul_one, Int.toNat_natCast, e21]) (by simp (maxSteps := 2000000) (disch := first | omega | assumption | (simp only [oneC_int, oneC_bool, oneC_str, oneC_ptr, oneC_sl, oneC_map]; done) | (simp only [List.length_cons, List.length_nil, List.length_set, List.length_map, List.length_replicate, List.length_append, List.length_take, List.length_drop, Int.toNat_natCast] <;> omega) | fail) only [Go.Rx.vi, Go.Rx.vb, Go.Rx.vstr, rxc, rxo, Nat.reduceLeDiff, List.getElem?_cons_zero, List.getElem?_cons_succ, List.length_cons, List.length_nil, List.set_cons_zero, List.set_cons_succ, ↓reduceIte, Bool.not_true, Bool.not_false, true_and, and_true, not_true_eq_false, not_false_eq_true, decide_true, decide_false, Nat.reduceEqDiff, Nat.reduceAdd, Nat.reduceMul, Nat.reducePow, Int.reduceToNat, Int.reducePow, Nat.zero_add, Nat.mul_one, Int.toNat_natCast, e22]) (by simp (maxSteps := 2000000) (disch := first | omega | assumption | (simp only [oneC_int, oneC_bool, oneC_str, oneC_ptr, oneC_sl, oneC_map]; done) | (simp only [List.length_cons, List.length_nil, List.length_set, List.length_map, List.length_replicate, List.length_append, List.length_take, List.length_drop, Int.toNat_natCast] <;> omega) | fail) only [Go.Rx.vi, Go.Rx.vb, Go.Rx.vstr, rxc, rxo, Nat.reduceLeDiff, List.getElem?_cons_zero, List.getElem?_cons_succ, List.length_cons, List.length_nil, List.set_cons_zero, List.set_cons_succ, ↓reduceIte, Bool.not_true, Bool.not_false, true_and, and_true, not_true_eq_false, not_false_eq_true, decide_true, decide_false, Nat.reduceEqDiff, Nat.reduceAdd, Nat.reduceMul, Nat.reducePow, Int.reduceToNat, Int.reducePow, Nat.zero_add, Nat.mul_one, Int.toNat_natCast, e23])
            rw [htk, setL_app, hh, decide_eq_true hxl, Bool.and_self, if_pos rfl]
            exact a2
          | false =>
            simp (maxSteps := 2000000) (disch := first | omega | assumption | (simp only [oneC_int, oneC_bool, oneC_str, oneC_ptr, oneC_sl, oneC_map]; done) | (simp only [List.length_cons, List.length_nil, List.length_set, List.length_map, List.length_replicate, List.length_append, List.length_take, List.length_drop, Int.toNat_natCast] <;> omega) | fail) only [Go.Rx.vi, Go.Rx.vb, Go.Rx.vstr, rxc, rxo, Nat.reduceLeDiff, List.getElem?_cons_zero, List.getElem?_cons_succ, List.length_cons, List.length_nil, List.set_cons_zero, List.set_cons_succ, ↓reduceIte, Bool.not_true, Bool.not_false, true_and, and_true, not_true_eq_false, not_false_eq_true, decide_true, decide_false, Nat.reduceEqDiff, Nat.reduceAdd, Nat.reduceMul, Nat.reducePow, Int.reduceToNat, Int.reducePow, Nat.zero_add, Nat.mul_one, Int.toNat_natCast]
            refine next u h4 _ ?_ bu (g.trans g4) (by simp (maxSteps := 2000000) (disch := first | omega | assumption | (simp only [oneC_int, oneC_bool, oneC_str, oneC_ptr, oneC_sl, oneC_map]; done) | (simp only [List.length_cons, List.length_nil, List.length_set, List.length_map, List.length_replicate, List.length_append, List.length_take, List.length_drop, Int.toNat_natCast] <;> omega) | fail) only [Go.Rx.vi, Go.Rx.vb, Go.Rx.vstr, rxc, rxo, Nat.reduceLeDiff, List.getElem?_cons_zero, List.getElem?_cons_succ, List.length_cons, List.length_nil, List.set_cons_zero, List.set_cons_succ, ↓reduceIte, Bool.not_true, Bool.not_false, true_and, and_true, not_true_eq_false, not_false_eq_true, decide_true, decide_false, Nat.reduceEqDiff, Nat.reduceAdd, Nat.reduceMul, Nat.reducePow, Int.reduceToNat, Int.reducePow, Nat.zero_add, Nat.mul_one, Int.toNat_natCast, e1]) (by simp (maxSteps := 2000000) (disch := first | omega | assumption | (simp only [oneC_int, oneC_bool, oneC_str, oneC_ptr, oneC_sl, oneC_map]; done) | (simp only [List.length_cons, List.length_nil, List.length_set, List.length_map, List.length_replicate, List.length_append, List.length_take, List.length_drop, Int.toNat_natCast] <;> omega) | fail) only [Go.Rx.vi, Go.Rx.vb, Go.Rx.vstr, rxc, rxo, Nat.reduceLeDiff, List.getElem?_cons_zero, List.getElem?_cons_succ, List.length_cons, List.length_nil, List.set_cons_zero, List.set_cons_succ, ↓reduceIte, Bool.not_true, Bool.not_false, true_and, and_true, not_true_eq_false, not_false_eq_true, decide_true, decide_false, Nat.reduceEqDiff, Nat.reduceAdd, Nat.reduceMul, Nat.reducePow, Int.reduceToNat, Int.reducePow, Nat.zero_add, Nat.mul_one, Int.toNat_natCast, e3]) (by simp (maxSteps := 2000000) (disch := first | omega | assumption | (simp only [oneC_int, oneC_bool, oneC_str, oneC_ptr, oneC_sl, oneC_map]; done) | (simp only [List.length_cons, List.length_nil, List.length_set, List.length_map, List.length_replicate, List.length_append, List.length_take, List.length_drop, Int.toNat_natCast] <;> omega) | fail) only [Go.Rx.vi, Go.Rx.vb, Go.Rx.vstr, rxc, rxo, Nat.reduceLeDiff, List.getElem?_cons_zero, List.getElem?_cons_succ, List.length_cons, List.length_nil, List.set_cons_zero, List.set_cons_succ, ↓reduceIte, Bool.not_true, Bool.not_false, true_and, and_true, not_true_eq_false, not_false_eq_true, decide_true, decide_false, Nat.reduceEqDiff, Nat.reduceAdd, Nat.reduceMul, Nat.reducePow, Int.reduceToNat, Int.reducePow, Nat.zero_add, Nat.mul_one, Int.toNat_natCast, e7]) (by simp (maxSteps := 2000000) (disch := first | omega | assumption | (simp only [oneC_int, oneC_bool, oneC_str, oneC_ptr, oneC_sl, oneC_map]; done) | (simp only [List.length_cons, List.length_nil, List.length_set, List.length_map, List.length_replicate, List.length_append, List.length_take, List.length_drop, Int.toNat_natCast] <;> omega) | fail) only [Go.Rx.vi, Go.Rx.vb, Go.Rx.vstr, rxc, rxo, Nat.reduceLeDiff, List.getElem?_cons_zero, List.getElem?_cons_succ, List.length_cons, List.length_nil, List.set_cons_zero, List.set_cons_succ, ↓reduceIte, Bool.not_true, Bool.not_false, true_and, and_true, not_true_eq_false, not_false_eq_true, decide_true, decide_false, Nat.reduceEqDiff, Nat.reduceAdd, Nat.reduceMul, Nat.reducePow, Int.reduceToNat, Int.reducePow, Nat.zero_add, Nat.mul_one, Int.toNat_natCast, e21]) (by simp (maxSteps := 2000000) (disch := first | omega | assumption | (simp only [oneC_int, oneC_bool, oneC_str, oneC_ptr, oneC_sl, oneC_map]; done) | (simp only [List.length_cons, List.length_nil, List.length_set, List.length_map, List.length_replicate, List.length_append, List.length_take, List.length_drop, Int.toNat_natCast] <;> omega) | fail) only [Go.Rx.vi, Go.Rx.vb, Go.Rx.vstr, rxc, rxo, Nat.reduceLeDiff, List.getElem?_cons_zero, List.getElem?_cons_succ, List.length_cons, List.length_nil, List.set_cons_zero, List.set_cons_succ, ↓reduceIte, Bool.not_true, Bool.not_false, true_and, and_true, not_true_eq_false, not_false_eq_true, decide_true, decide_false, Nat.reduceEqDiff, Nat.reduceAdd, Nat.reduceMul, Nat.reducePow, Int.reduceToNat, Int.reducePow, Nat.zero_add, Nat.mul_one, Int.toNat_natCast, e22]) (by simp (maxSteps := 2000000) (disch := first | omega | assumption | (simp only [oneC_int, oneC_bool, oneC_str, oneC_ptr, oneC_sl, oneC_map]; done) | (simp only [List.length_cons, List.length_nil, List.length_set, List.length_map, List.length_replicate, List.length_append, List.length_take, List.length_drop, Int.toNat_natCast] <;> omega) | fail) only [Go.Rx.vi, Go.Rx.vb, Go.Rx.vstr, rxc, rxo, Nat.reduceLeDiff, List.getElem?_cons_zero, List.getElem?_cons_succ, List.length_cons, List.length_nil, List.set_cons_zero, List.set_cons_succ, ↓reduceIte, Bool.not_true, Bool.not_false, true_and, and_true, not_true_eq_false, not_false_eq_true, decide_true, decide_false, Nat.reduceEqDiff, Nat.reduceAdd, Nat.reduceMul, Nat.reducePow, Int.reduceToNat, Int.reducePow, Nat.zero_add, Nat.mul_one, Int.toNat_natCast, e23])
            rw [htk, setL_app, hh, Bool.and_false, if_neg (by simp), List.append_nil]
            exact ou.gp g4
        · simp only [hxl, decide_false]
          simp (maxSteps := 2000000) (disch := first | omega | assumption | (simp only [oneC_int, oneC_bool, oneC_str, oneC_ptr, oneC_sl, oneC_map]; done) | (simp only [List.length_cons, List.length_nil, List.length_set, List.length_map, List.length_replicate, List.length_append, List.length_take, List.length_drop, Int.toNat_natCast] <;> omega) | fail) only [Go.Rx.vi, Go.Rx.vb, Go.Rx.vstr, rxc, rxo, Nat.reduceLeDiff, List.getElem?_cons_zero, List.getElem?_cons_succ, List.length_cons, List.length_nil, List.set_cons_zero, List.set_cons_succ, ↓reduceIte, Bool.not_true, Bool.not_false, true_and, and_true, not_true_eq_false, not_false_eq_true, decide_true, decide_false, Nat.reduceEqDiff, Nat.reduceAdd, Nat.reduceMul, Nat.reducePow, Int.reduceToNat, Int.reducePow, Nat.zero_add, Nat.mul_one, Int.toNat_natCast]
          refine next u h' _ ?_ bu g (by simp (maxSteps := 2000000) (disch := first | omega | assumption | (simp only [oneC_int, oneC_bool, oneC_str, oneC_ptr, oneC_sl, oneC_map]; done) | (simp only [List.length_cons, List.length_nil, List.length_set, List.length_map, List.length_replicate, List.length_append, List.length_take, List.length_drop, Int.toNat_natCast] <;> omega) | fail) only [Go.Rx.vi, Go.Rx.vb, Go.Rx.vstr, rxc, rxo, Nat.reduceLeDiff, List.getElem?_cons_zero, List.getElem?_cons_succ, List.length_cons, List.length_nil, List.set_cons_zero, List.set_cons_succ, ↓reduceIte, Bool.not_true, Bool.not_false, true_and, and_true, not_true_eq_false, not_false_eq_true, decide_true, decide_false, Nat.reduceEqDiff, Nat.reduceAdd, Nat.reduceMul, Nat.reducePow, Int.reduceToNat, Int.reducePow, Nat.zero_add, Nat.mul_one, Int.toNat_natCast, e1]) (by simp (maxSteps := 2000000) (disch := first | omega | assumption | (simp only [oneC_int, oneC_bool, oneC_str, oneC_ptr, oneC_sl, oneC_map]; done) | (simp only [List.length_cons, List.length_nil, List.length_set, List.length_map, List.length_replicate, List.length_append, List.length_take, List.length_drop, Int.toNat_natCast] <;> omega) | fail) only [Go.Rx.vi, Go.Rx.vb, Go.Rx.vstr, rxc, rxo, Nat.reduceLeDiff, List.getElem?_cons_zero, List.getElem?_cons_succ, List.length_cons, List.length_nil, List.set_cons_zero, List.set_cons_succ, ↓reduceIte, Bool.not_true, Bool.not_false, true_and, and_true, not_true_eq_false, not_false_eq_true, decide_true, decide_false, Nat.reduceEqDiff, Nat.reduceAdd, Nat.reduceMul, Nat.reducePow, Int.reduceToNat, Int.reducePow, Nat.zero_add, Nat.mul_one, Int.toNat_natCast, e3]) (by simp (maxSteps := 2000000) (disch := first | omega | assumption | (simp only [oneC_int, oneC_bool, oneC_str, oneC_ptr, oneC_sl, oneC_map]; done) | (simp only [List.length_cons, List.length_nil, List.length_set, List.length_map, List.length_replicate, List.length_append, List.length_take, List.length_drop, Int.toNat_natCast] <;> omega) | fail) only [Go.Rx.vi, Go.Rx.vb, Go.Rx.vstr, rxc, rxo, Nat.reduceLeDiff, List.getElem?_cons_zero, List.getElem?_cons_succ, List.length_cons, List.length_nil, List.set_cons_zero, List.set_cons_succ, ↓reduceIte, Bool.not_true, Bool.not_false, true_and, and_true, not_true_eq_false, not_false_eq_true, decide_true, decide_false, Nat.reduceEqDiff, Nat.reduceAdd, Nat.reduceMul, Nat.reducePow, Int.reduceToNat, Int.reducePow, Nat.zero_add, Nat.mul_one, Int.toNat_natCast, e7]) (by simp (maxSteps := 2000000) (disch := first | omega | assumption | (simp only [oneC_int, oneC_bool, oneC_str, oneC_ptr, oneC_sl, oneC_map]; done) | (simp only [List.length_cons, List.length_nil, List.length_set, List.length_map, List.length_replicate, List.length_append, List.length_take, List.length_drop, Int.toNat_natCast] <;> omega) | fail) only [Go.Rx.vi, Go.Rx.vb, Go.Rx.vstr, rxc, rxo, Nat.reduceLeDiff, List.getElem?_cons_zero, List.getElem?_cons_succ, List.length_cons, List.length_nil, List.set_cons_zero, List.set_cons_succ, ↓reduceIte, Bool.not_true, Bool.not_false, true_and, and_true, not_true_eq_false, not_false_eq_true, decide_true, decide_false, Nat.reduceEqDiff, Nat.reduceAdd, Nat.reduceMul, Nat.reducePow, Int.reduceToNat, Int.reducePow, Nat.zero_add, Nat.mul_one, Int.toNat_natCast, e21]) (by simp (maxSteps := 2000000) (disch := first | omega | assumption | (simp only [oneC_int, oneC_bool, oneC_str, oneC_ptr, oneC_sl, oneC_map]; done) | (simp only [List.length_cons, List.length_nil, List.length_set, List.length_map, List.length_replicate, List.length_append, List.length_take, List.length_drop, Int.toNat_natCast] <;> omega) | fail) only [Go.Rx.vi, Go.Rx.vb, Go.Rx.vstr, rxc, rxo, Nat.reduceLeDiff, List.getElem?_cons_zero, List.getElem?_cons_succ, List.length_cons, List.length_nil, List.set_cons_zero, List.set_cons_succ, ↓reduceIte, Bool.not_true, Bool.not_false, true_and, and_true, not_true_eq_false, not_false_eq_true, decide_true, decide_false, Nat.reduceEqDiff, Nat.reduceAdd, Nat.reduceMul, Nat.reducePow, Int.reduceToNat, Int.reducePow, Nat.zero_add, Nat.mul_one, Int.toNat_natCast, e22]) (by simp (maxSteps := 2000000) (disch := first | omega | assumption | (simp only [oneC_int, oneC_bool, oneC_str, oneC_ptr, oneC_sl, oneC_map]; done) | (simp only [List.length_cons, List.length_nil, List.length_set, List.length_map, List.length_replicate, List.length_append, List.length_take, List.length_drop, Int.toNat_natCast] <;> omega) | fail) only [Go.Rx.vi, Go.Rx.vb, Go.Rx.vstr, rxc, rxo, Nat.reduceLeDiff, List.getElem?_cons_zero, List.getElem?_cons_succ, List.length_cons, List.length_nil, List.set_cons_zero, List.set_cons_succ, ↓reduceIte, Bool.not_true, Bool.not_false, true_and, and_true, not_true_eq_false, not_false_eq_true, decide_true, decide_false, Nat.reduceEqDiff, Nat.reduceAdd, Nat.reduceMul, Nat.reducePow, Int.reduceToNat, Int.reducePow, Nat.zero_add, Nat.mul_one, Int.toNat_natCast, e23])
          rw [htk, setL_app, decide_eq_false hxl, Bool.false_and, if_neg (by simp), List.append_nil]
          exact ou
      · simp (maxSteps := 2000000) (disch := first | omega | assumption | (simp only [oneC_int, oneC_bool, oneC_str, oneC_ptr, oneC_sl, oneC_map]; done) | (simp only [List.length_cons, List.length_nil, List.length_set, List.length_map, List.length_replicate, List.length_append, List.length_take, List.length_drop, Int.toNat_natCast] <;> omega) | fail) only [Go.Rx.vi, Go.Rx.vb, Go.Rx.vstr, rxc, rxo, Nat.reduceLeDiff, List.getElem?_cons_zero, List.getElem?_cons_succ, List.length_cons, List.length_nil, List.set_cons_zero, List.set_cons_succ, ↓reduceIte, Bool.not_true, Bool.not_false, true_and, and_true, not_true_eq_false, not_false_eq_true, decide_true, decide_false, Nat.reduceEqDiff, Nat.reduceAdd, Nat.reduceMul, Nat.reducePow, Int.reduceToNat, Int.reducePow, Nat.zero_add, Nat.mul_one, Int.toNat_natCast, e7]
        rw [List.take_of_length_le (by omega)] at ou
        exact ⟨u, rfl, ou, g⟩
    · rintro e h' ⟨u, e7, ou, g⟩
      simp (maxSteps := 2000000) (disch := first | omega | assumption | (simp only [oneC_int, oneC_bool, oneC_str, oneC_ptr, oneC_sl, oneC_map]; done) | (simp only [List.length_cons, List.length_nil, List.length_set, List.length_map, List.length_replicate, List.length_append, List.length_take, List.length_drop, Int.toNat_natCast] <;> omega) | fail) only [Go.Rx.vi, Go.Rx.vb, Go.Rx.vstr, rxc, rxo, Nat.reduceLeDiff, List.getElem?_cons_zero, List.getElem?_cons_succ, List.length_cons, List.length_nil, List.set_cons_zero, List.set_cons_succ, ↓reduceIte, Bool.not_true, Bool.not_false, true_and, and_true, not_true_eq_false, not_false_eq_true, decide_true, decide_false, Nat.reduceEqDiff, Nat.reduceAdd, Nat.reduceMul, Nat.reducePow, Int.reduceToNat, Int.reducePow, Nat.zero_add, Nat.mul_one, Int.toNat_natCast, R52_31, e7]
      refine hk _ _ _ ou.v (setL_pos hp) (fun j => ?_) (g2.trans g)
      rw [setL_mem]
      constructor
      · rintro ⟨x, hx, hj, hlt, hh⟩
        have := hp.lo x hx
        refine ⟨x.toNat, by rw [Int.toNat_of_nonneg this.1]; exact hx, Mt_kind.2 (.inr (.inl ⟨hk2, by omega, by omega, hh⟩))⟩
      · rintro ⟨i, hi, hmt⟩
        rcases Mt_kind.1 hmt with h | h | h | h | h | h | h
        · omega
        · exact ⟨i, hi, by omega, by omega, by simpa using h.2.2.2⟩
        all_goals omega
  simp (maxSteps := 2000000) (disch := first | omega | assumption | (simp only [oneC_int, oneC_bool, oneC_str, oneC_ptr, oneC_sl, oneC_map]; done) | (simp only [List.length_cons, List.length_nil, List.length_set, List.length_map, List.length_replicate, List.length_append, List.length_take, List.length_drop, Int.toNat_natCast] <;> omega) | fail) only [Go.Rx.vi, Go.Rx.vb, Go.Rx.vstr, rxc, rxo, Nat.reduceLeDiff, List.getElem?_cons_zero, List.getElem?_cons_succ, List.length_cons, List.length_nil, List.set_cons_zero, List.set_cons_succ, ↓reduceIte, Bool.not_true, Bool.not_false, true_and, and_true, not_true_eq_false, not_false_eq_true, decide_true, decide_false, Nat.reduceEqDiff, Nat.reduceAdd, Nat.reduceMul, Nat.reducePow, Int.reduceToNat, Int.reducePow, Nat.zero_add, Nat.mul_one, Int.toNat_natCast, R52_12]
  have get0 : 1 ≤ ps.length → ∃ p0, ps[0]? = some p0 ∧ p0 ∈ ps ∧ RegC h p0 (pss.getD 0 []) := fun h0 => by
    obtain ⟨p0, e0, c0⟩ := q6.get (i := 0) (by omega)
    exact ⟨p0, e0, List.mem_of_getElem? e0, c0⟩
  have hd0 : ∀ {p0 : RegD}, ps[0]? = some p0 → ∀ i j, HdM t ps i j ↔ Mt t p0 i j := by
    intro p0 e0 i j
    cases ps with
    | nil => simp at e0
    | cons q qs => simp at e0; subst e0; rw [HdM]
  refine WCond_dec (fun hk3 => ?_) (fun hk3 => ?_)
  · have rp := (q5.gp g2).r
    simp (maxSteps := 2000000) (disch := first | omega | assumption | (simp only [oneC_int, oneC_bool, oneC_str, oneC_ptr, oneC_sl, oneC_map]; done) | (simp only [List.length_cons, List.length_nil, List.length_set, List.length_map, List.length_replicate, List.length_append, List.length_take, List.length_drop, Int.toNat_natCast] <;> omega) | fail) only [Go.Rx.vi, Go.Rx.vb, Go.Rx.vstr, rxc, rxo, Nat.reduceLeDiff, List.getElem?_cons_zero, List.getElem?_cons_succ, List.length_cons, List.length_nil, List.set_cons_zero, List.set_cons_succ, ↓reduceIte, Bool.not_true, Bool.not_false, true_and, and_true, not_true_eq_false, not_false_eq_true, decide_true, decide_false, Nat.reduceEqDiff, Nat.reduceAdd, Nat.reduceMul, Nat.reducePow, Int.reduceToNat, Int.reducePow, Nat.zero_add, Nat.mul_one, Int.toNat_natCast, R52_13, R52_14, b2, q4, rp]
    refine WC_bloop 14 (fun mm e h' => ∃ (i : Nat) (u : Value) (o : List Int), mm = pss.length - i ∧ i ≤ pss.length ∧ e.g 1 = vstr t ∧ e.g 7 = u ∧ e.g 49 = pv ∧ e.g 50 = .int .i64 pss.length ∧ e.g 51 = .int .i64 i ∧ IV h' u o ∧ Pos t.length o ∧ Img (SeqM t (ps.take i)) l o ∧ GrowP h2 h')
      (fun e h' => ∃ (u : Value) (o : List Int), e.g 7 = u ∧ IV h' u o ∧ Pos t.length o ∧ Img (SeqM t ps) l o ∧ GrowP h2 h') ?_ ?_ ?_
    · refine ⟨_, 0, v, l, rfl, by omega, ?_, ?_, ?_, ?_, ?_, hv.gp g2, hp, ?_, .refl _⟩
      · simp (maxSteps := 2000000) (disch := first | omega | assumption | (simp only [oneC_int, oneC_bool, oneC_str, oneC_ptr, oneC_sl, oneC_map]; done) | (simp only [List.length_cons, List.length_nil, List.length_set, List.length_map, List.length_replicate, List.length_append, List.length_take, List.length_drop, Int.toNat_natCast] <;> omega) | fail) only [Go.Rx.vi, Go.Rx.vb, Go.Rx.vstr, rxc, rxo, Nat.reduceLeDiff, List.getElem?_cons_zero, List.getElem?_cons_succ, List.length_cons, List.length_nil, List.set_cons_zero, List.set_cons_succ, ↓reduceIte, Bool.not_true, Bool.not_false, true_and, and_true, not_true_eq_false, not_false_eq_true, decide_true, decide_false, Nat.reduceEqDiff, Nat.reduceAdd, Nat.reduceMul, Nat.reducePow, Int.reduceToNat, Int.reducePow, Nat.zero_add, Nat.mul_one, Int.toNat_natCast]
      · simp (maxSteps := 2000000) (disch := first | omega | assumption | (simp only [oneC_int, oneC_bool, oneC_str, oneC_ptr, oneC_sl, oneC_map]; done) | (simp only [List.length_cons, List.length_nil, List.length_set, List.length_map, List.length_replicate, List.length_append, List.length_take, List.length_drop, Int.toNat_natCast] <;> omega) | fail) only [Go.Rx.vi, Go.Rx.vb, Go.Rx.vstr, rxc, rxo, Nat.reduceLeDiff, List.getElem?_cons_zero, List.getElem?_cons_succ, List.length_cons, List.length_nil, List.set_cons_zero, List.set_cons_succ, ↓reduceIte, Bool.not_true, Bool.not_false, true_and, and_true, not_true_eq_false, not_false_eq_true, decide_true, decide_false, Nat.reduceEqDiff, Nat.reduceAdd, Nat.reduceMul, Nat.reducePow, Int.reduceToNat, Int.reducePow, Nat.zero_add, Nat.mul_one, Int.toNat_natCast]
      · simp (maxSteps := 2000000) (disch := first | omega | assumption | (simp only [oneC_int, oneC_bool, oneC_str, oneC_ptr, oneC_sl, oneC_map]; done) | (simp only [List.length_cons, List.length_nil, List.length_set, List.length_map, List.length_replicate, List.length_append, List.length_take, List.length_drop, Int.toNat_natCast] <;> omega) | fail) only [Go.Rx.vi, Go.Rx.vb, Go.Rx.vstr, rxc, rxo, Nat.reduceLeDiff, List.getElem?_cons_zero, List.getElem?_cons_succ, List.length_cons, List.length_nil, List.set_cons_zero, List.set_cons_succ, ↓reduceIte, Bool.not_true, Bool.not_false, true_and, and_true, not_true_eq_false, not_false_eq_true, decide_true, decide_false, Nat.reduceEqDiff, Nat.reduceAdd, Nat.reduceMul, Nat.reducePow, Int.reduceToNat, Int.reducePow, Nat.zero_add, Nat.mul_one, Int.toNat_natCast]
      · simp (maxSteps := 2000000) (disch := first | omega | assumption | (simp only [oneC_int, oneC_bool, oneC_str, oneC_ptr, oneC_sl, oneC_map]; done) | (simp only [List.length_cons, List.length_nil, List.length_set, List.length_map, List.length_replicate, List.length_append, List.length_take, List.length_drop, Int.toNat_natCast] <;> omega) | fail) only [Go.Rx.vi, Go.Rx.vb, Go.Rx.vstr, rxc, rxo, Nat.reduceLeDiff, List.getElem?_cons_zero, List.getElem?_cons_succ, List.length_cons, List.length_nil, List.set_cons_zero, List.set_cons_succ, ↓reduceIte, Bool.not_true, Bool.not_false, true_and, and_true, not_true_eq_false, not_false_eq_true, decide_true, decide_false, Nat.reduceEqDiff, Nat.reduceAdd, Nat.reduceMul, Nat.reducePow, Int.reduceToNat, Int.reducePow, Nat.zero_add, Nat.mul_one, Int.toNat_natCast]
      · simp (maxSteps := 2000000) (disch := first | omega | assumption | (simp only [oneC_int, oneC_bool, oneC_str, oneC_ptr, oneC_sl, oneC_map]; done) | (simp only [List.length_cons, List.length_nil, List.length_set, List.length_map, List.length_replicate, List.length_append, List.length_take, List.length_drop, Int.toNat_natCast] <;> omega) | fail) only [Go.Rx.vi, Go.Rx.vb, Go.Rx.vstr, rxc, rxo, Nat.reduceLeDiff, List.getElem?_cons_zero, List.getElem?_cons_succ, List.length_cons, List.length_nil, List.set_cons_zero, List.set_cons_succ, ↓reduceIte, Bool.not_true, Bool.not_false, true_and, and_true, not_true_eq_false, not_false_eq_true, decide_true, decide_false, Nat.reduceEqDiff, Nat.reduceAdd, Nat.reduceMul, Nat.reducePow, Int.reduceToNat, Int.reducePow, Nat.zero_add, Nat.mul_one, Int.toNat_natCast]; rfl
      · intro j; simp [SeqM]
    · rintro mm e h' ⟨i, u, o, rfl, hi, e1, e7, e49, e50, e51, ou, po, im, g⟩
      have r1 := ((q5.gp g2).gp g).r
      have gn := g.next
      simp (maxSteps := 2000000) (disch := first | omega | assumption | (simp only [oneC_int, oneC_bool, oneC_str, oneC_ptr, oneC_sl, oneC_map]; done) | (simp only [List.length_cons, List.length_nil, List.length_set, List.length_map, List.length_replicate, List.length_append, List.length_take, List.length_drop, Int.toNat_natCast] <;> omega) | fail) only [Go.Rx.vi, Go.Rx.vb, Go.Rx.vstr, rxc, rxo, Nat.reduceLeDiff, List.getElem?_cons_zero, List.getElem?_cons_succ, List.length_cons, List.length_nil, List.set_cons_zero, List.set_cons_succ, ↓reduceIte, Bool.not_true, Bool.not_false, true_and, and_true, not_true_eq_false, not_false_eq_true, decide_true, decide_false, Nat.reduceEqDiff, Nat.reduceAdd, Nat.reduceMul, Nat.reducePow, Int.reduceToNat, Int.reducePow, Nat.zero_add, Nat.mul_one, Int.toNat_natCast, B52_1, R52_15, e50, e51]
      refine WCond_dec (fun hc => ?_) (fun hc => ?_)
      · obtain ⟨p, hpi, hpc⟩ := q6.get (i := i) (by omega)
        obtain ⟨p1, p2, p3, pv', pss', p4, p5, p6⟩ := hpc.b
        simp (maxSteps := 2000000) (disch := first | omega | assumption | (simp only [oneC_int, oneC_bool, oneC_str, oneC_ptr, oneC_sl, oneC_map]; done) | (simp only [List.length_cons, List.length_nil, List.length_set, List.length_map, List.length_replicate, List.length_append, List.length_take, List.length_drop, Int.toNat_natCast] <;> omega) | fail) only [Go.Rx.vi, Go.Rx.vb, Go.Rx.vstr, rxc, rxo, Nat.reduceLeDiff, List.getElem?_cons_zero, List.getElem?_cons_succ, List.length_cons, List.length_nil, List.set_cons_zero, List.set_cons_succ, ↓reduceIte, Bool.not_true, Bool.not_false, true_and, and_true, not_true_eq_false, not_false_eq_true, decide_true, decide_false, Nat.reduceEqDiff, Nat.reduceAdd, Nat.reduceMul, Nat.reducePow, Int.reduceToNat, Int.reducePow, Nat.zero_add, Nat.mul_one, Int.toNat_natCast, R52_16, e1, e7, e49, e50, e51, r1, p1, st6 p1 p2]
        obtain ⟨h4, e5, g4, n4, b4⟩ := boxed2 h' [.int .i64 0, .int .u64 0, .int .u64 0, .int .u64 0, .int .u64 0, .slice none 0 0] (pss.getD i []) 48
        rw [e5]
        simp (maxSteps := 2000000) (disch := first | omega | assumption | (simp only [oneC_int, oneC_bool, oneC_str, oneC_ptr, oneC_sl, oneC_map]; done) | (simp only [List.length_cons, List.length_nil, List.length_set, List.length_map, List.length_replicate, List.length_append, List.length_take, List.length_drop, Int.toNat_natCast] <;> omega) | fail) only [Go.Rx.vi, Go.Rx.vb, Go.Rx.vstr, rxc, rxo, Nat.reduceLeDiff, List.getElem?_cons_zero, List.getElem?_cons_succ, List.length_cons, List.length_nil, List.set_cons_zero, List.set_cons_succ, ↓reduceIte, Bool.not_true, Bool.not_false, true_and, and_true, not_true_eq_false, not_false_eq_true, decide_true, decide_false, Nat.reduceEqDiff, Nat.reduceAdd, Nat.reduceMul, Nat.reducePow, Int.reduceToNat, Int.reducePow, Nat.zero_add, Nat.mul_one, Int.toNat_natCast, R52_17, e1, e7, b4, p1, cut_all p1]
        refine IH p (List.mem_of_getElem? hpi) (by omega) (((hpc.gp g2).gp g).gp g4) (ou.gp g4) po ?_
        intro u' o' h5 ou' po' im' g5
        simp (maxSteps := 2000000) (disch := first | omega | assumption | (simp only [oneC_int, oneC_bool, oneC_str, oneC_ptr, oneC_sl, oneC_map]; done) | (simp only [List.length_cons, List.length_nil, List.length_set, List.length_map, List.length_replicate, List.length_append, List.length_take, List.length_drop, Int.toNat_natCast] <;> omega) | fail) only [Go.Rx.vi, Go.Rx.vb, Go.Rx.vstr, rxc, rxo, Nat.reduceLeDiff, List.getElem?_cons_zero, List.getElem?_cons_succ, List.length_cons, List.length_nil, List.set_cons_zero, List.set_cons_succ, ↓reduceIte, Bool.not_true, Bool.not_false, true_and, and_true, not_true_eq_false, not_false_eq_true, decide_true, decide_false, Nat.reduceEqDiff, Nat.reduceAdd, Nat.reduceMul, Nat.reducePow, Int.reduceToNat, Int.reducePow, Nat.zero_add, Nat.mul_one, Int.toNat_natCast, R52_18, e1, e49, e50, e51]
        refine ⟨_, ?_, i + 1, u', o', rfl, by omega, rfl, ?_, ou', po', ?_, (g.trans g4).trans g5⟩
        · omega
        · simp
        · intro j
          rw [im' j, List.take_add_one, hpi]
          constructor
          · rintro ⟨a, ha, hmt⟩
            obtain ⟨b, hb, hs⟩ := (im a).1 ha
            exact ⟨b, hb, SeqM_snoc.2 ⟨a, hs, hmt⟩⟩
          · rintro ⟨b, hb, hs⟩
            obtain ⟨a, h3, h4⟩ := SeqM_snoc.1 hs
            exact ⟨a, (im a).2 ⟨b, hb, h3⟩, h4⟩
      · simp (maxSteps := 2000000) (disch := first | omega | assumption | (simp only [oneC_int, oneC_bool, oneC_str, oneC_ptr, oneC_sl, oneC_map]; done) | (simp only [List.length_cons, List.length_nil, List.length_set, List.length_map, List.length_replicate, List.length_append, List.length_take, List.length_drop, Int.toNat_natCast] <;> omega) | fail) only [Go.Rx.vi, Go.Rx.vb, Go.Rx.vstr, rxc, rxo, Nat.reduceLeDiff, List.getElem?_cons_zero, List.getElem?_cons_succ, List.length_cons, List.length_nil, List.set_cons_zero, List.set_cons_succ, ↓reduceIte, Bool.not_true, Bool.not_false, true_and, and_true, not_true_eq_false, not_false_eq_true, decide_true, decide_false, Nat.reduceEqDiff, Nat.reduceAdd, Nat.reduceMul, Nat.reducePow, Int.reduceToNat, Int.reducePow, Nat.zero_add, Nat.mul_one, Int.toNat_natCast, e7]
        rw [List.take_of_length_le (by omega)] at im
        exact ⟨u, o, rfl, ou, po, im, g⟩
    · rintro e h' ⟨u, o, e7, ou, po, im, g⟩
      simp (maxSteps := 2000000) (disch := first | omega | assumption | (simp only [oneC_int, oneC_bool, oneC_str, oneC_ptr, oneC_sl, oneC_map]; done) | (simp only [List.length_cons, List.length_nil, List.length_set, List.length_map, List.length_replicate, List.length_append, List.length_take, List.length_drop, Int.toNat_natCast] <;> omega) | fail) only [Go.Rx.vi, Go.Rx.vb, Go.Rx.vstr, rxc, rxo, Nat.reduceLeDiff, List.getElem?_cons_zero, List.getElem?_cons_succ, List.length_cons, List.length_nil, List.set_cons_zero, List.set_cons_succ, ↓reduceIte, Bool.not_true, Bool.not_false, true_and, and_true, not_true_eq_false, not_false_eq_true, decide_true, decide_false, Nat.reduceEqDiff, Nat.reduceAdd, Nat.reduceMul, Nat.reducePow, Int.reduceToNat, Int.reducePow, Nat.zero_add, Nat.mul_one, Int.toNat_natCast, R52_31, e7]
      refine hk _ _ _ ou po (fun j => ?_) (g2.trans g)
      rw [im j]
      constructor
      · rintro ⟨i, hi, hs⟩
        exact ⟨i, hi, Mt_kind.2 (.inr (.inr (.inl ⟨hk3, hs⟩)))⟩
      · rintro ⟨i, hi, hmt⟩
        refine ⟨i, hi, ?_⟩
        rcases Mt_kind.1 hmt with h | h | h | h | h | h | h
        · omega
        · omega
        · exact h.2
        all_goals omega
  simp (maxSteps := 2000000) (disch := first | omega | assumption | (simp only [oneC_int, oneC_bool, oneC_str, oneC_ptr, oneC_sl, oneC_map]; done) | (simp only [List.length_cons, List.length_nil, List.length_set, List.length_map, List.length_replicate, List.length_append, List.length_take, List.length_drop, Int.toNat_natCast] <;> omega) | fail) only [Go.Rx.vi, Go.Rx.vb, Go.Rx.vstr, rxc, rxo, Nat.reduceLeDiff, List.getElem?_cons_zero, List.getElem?_cons_succ, List.length_cons, List.length_nil, List.set_cons_zero, List.set_cons_succ, ↓reduceIte, Bool.not_true, Bool.not_false, true_and, and_true, not_true_eq_false, not_false_eq_true, decide_true, decide_false, Nat.reduceEqDiff, Nat.reduceAdd, Nat.reduceMul, Nat.reducePow, Int.reduceToNat, Int.reducePow, Nat.zero_add, Nat.mul_one, Int.toNat_natCast, R52_19]
  refine WCond_dec (fun hk4 => ?_) (fun hk4 => ?_)
  · have rp := (q5.gp g2).r
    simp (maxSteps := 2000000) (disch := first | omega | assumption | (simp only [oneC_int, oneC_bool, oneC_str, oneC_ptr, oneC_sl, oneC_map]; done) | (simp only [List.length_cons, List.length_nil, List.length_set, List.length_map, List.length_replicate, List.length_append, List.length_take, List.length_drop, Int.toNat_natCast] <;> omega) | fail) only [Go.Rx.vi, Go.Rx.vb, Go.Rx.vstr, rxc, rxo, Nat.reduceLeDiff, List.getElem?_cons_zero, List.getElem?_cons_succ, List.length_cons, List.length_nil, List.set_cons_zero, List.set_cons_succ, ↓reduceIte, Bool.not_true, Bool.not_false, true_and, and_true, not_true_eq_false, not_false_eq_true, decide_true, decide_false, Nat.reduceEqDiff, Nat.reduceAdd, Nat.reduceMul, Nat.reducePow, Int.reduceToNat, Int.reducePow, Nat.zero_add, Nat.mul_one, Int.toNat_natCast, R52_20, b2, q4, rp]
    refine WC_bloop 14 (fun mm e h' => ∃ (i : Nat) (u : Value) (o : List Int), mm = pss.length - i ∧ i ≤ pss.length ∧ e.g 1 = vstr t ∧ e.g 2 = v ∧ e.g 7 = u ∧ e.g 63 = pv ∧ e.g 64 = .int .i64 pss.length ∧ e.g 65 = .int .i64 i ∧ IV h' u o ∧ Pos t.length o ∧ Img (AnyM t (ps.take i)) l o ∧ GrowP h2 h')
      (fun e h' => ∃ (u : Value) (o : List Int), e.g 7 = u ∧ IV h' u o ∧ Pos t.length o ∧ Img (AnyM t ps) l o ∧ GrowP h2 h') ?_ ?_ ?_
    · refine ⟨_, 0, .slice none 0 0, [], rfl, by omega, ?_, ?_, ?_, ?_, ?_, ?_, (IO.nil (by omega)).v, .nil, ?_, .refl _⟩
      · simp (maxSteps := 2000000) (disch := first | omega | assumption | (simp only [oneC_int, oneC_bool, oneC_str, oneC_ptr, oneC_sl, oneC_map]; done) | (simp only [List.length_cons, List.length_nil, List.length_set, List.length_map, List.length_replicate, List.length_append, List.length_take, List.length_drop, Int.toNat_natCast] <;> omega) | fail) only [Go.Rx.vi, Go.Rx.vb, Go.Rx.vstr, rxc, rxo, Nat.reduceLeDiff, List.getElem?_cons_zero, List.getElem?_cons_succ, List.length_cons, List.length_nil, List.set_cons_zero, List.set_cons_succ, ↓reduceIte, Bool.not_true, Bool.not_false, true_and, and_true, not_true_eq_false, not_false_eq_true, decide_true, decide_false, Nat.reduceEqDiff, Nat.reduceAdd, Nat.reduceMul, Nat.reducePow, Int.reduceToNat, Int.reducePow, Nat.zero_add, Nat.mul_one, Int.toNat_natCast]
      · simp (maxSteps := 2000000) (disch := first | omega | assumption | (simp only [oneC_int, oneC_bool, oneC_str, oneC_ptr, oneC_sl, oneC_map]; done) | (simp only [List.length_cons, List.length_nil, List.length_set, List.length_map, List.length_replicate, List.length_append, List.length_take, List.length_drop, Int.toNat_natCast] <;> omega) | fail) only [Go.Rx.vi, Go.Rx.vb, Go.Rx.vstr, rxc, rxo, Nat.reduceLeDiff, List.getElem?_cons_zero, List.getElem?_cons_succ, List.length_cons, List.length_nil, List.set_cons_zero, List.set_cons_succ, ↓reduceIte, Bool.not_true, Bool.not_false, true_and, and_true, not_true_eq_false, not_false_eq_true, decide_true, decide_false, Nat.reduceEqDiff, Nat.reduceAdd, Nat.reduceMul, Nat.reducePow, Int.reduceToNat, Int.reducePow, Nat.zero_add, Nat.mul_one, Int.toNat_natCast]
      · simp (maxSteps := 2000000) (disch := first | omega | assumption | (simp only [oneC_int, oneC_bool, oneC_str, oneC_ptr, oneC_sl, oneC_map]; done) | (simp only [List.length_cons, List.length_nil, List.length_set, List.length_map, List.length_replicate, List.length_append, List.length_take, List.length_drop, Int.toNat_natCast] <;> omega) | fail) only [Go.Rx.vi, Go.Rx.vb, Go.Rx.vstr, rxc, rxo, Nat.reduceLeDiff, List.getElem?_cons_zero, List.getElem?_cons_succ, List.length_cons, List.length_nil, List.set_cons_zero, List.set_cons_succ, ↓reduceIte, Bool.not_true, Bool.not_false, true_and, and_true, not_true_eq_false, not_false_eq_true, decide_true, decide_false, Nat.reduceEqDiff, Nat.reduceAdd, Nat.reduceMul, Nat.reducePow, Int.reduceToNat, Int.reducePow, Nat.zero_add, Nat.mul_one, Int.toNat_natCast]
      · simp (maxSteps := 2000000) (disch := first | omega | assumption | (simp only [oneC_int, oneC_bool, oneC_str, oneC_ptr, oneC_sl, oneC_map]; done) | (simp only [List.length_cons, List.length_nil, List.length_set, List.length_map, List.length_replicate, List.length_append, List.length_take, List.length_drop, Int.toNat_natCast] <;> omega) | fail) only [Go.Rx.vi, Go.Rx.vb, Go.Rx.vstr, rxc, rxo, Nat.reduceLeDiff, List.getElem?_cons_zero, List.getElem?_cons_succ, List.length_cons, List.length_nil, List.set_cons_zero, List.set_cons_succ, ↓reduceIte, Bool.not_true, Bool.not_false, true_and, and_true, not_true_eq_false, not_false_eq_true, decide_true, decide_false, Nat.reduceEqDiff, Nat.reduceAdd, Nat.reduceMul, Nat.reducePow, Int.reduceToNat, Int.reducePow, Nat.zero_add, Nat.mul_one, Int.toNat_natCast]
      · simp (maxSteps := 2000000) (disch := first | omega | assumption | (simp only [oneC_int, oneC_bool, oneC_str, oneC_ptr, oneC_sl, oneC_map]; done) | (simp only [List.length_cons, List.length_nil, List.length_set, List.length_map, List.length_replicate, List.length_append, List.length_take, List.length_drop, Int.toNat_natCast] <;> omega) | fail) only [Go.Rx.vi, Go.Rx.vb, Go.Rx.vstr, rxc, rxo, Nat.reduceLeDiff, List.getElem?_cons_zero, List.getElem?_cons_succ, List.length_cons, List.length_nil, List.set_cons_zero, List.set_cons_succ, ↓reduceIte, Bool.not_true, Bool.not_false, true_and, and_true, not_true_eq_false, not_false_eq_true, decide_true, decide_false, Nat.reduceEqDiff, Nat.reduceAdd, Nat.reduceMul, Nat.reducePow, Int.reduceToNat, Int.reducePow, Nat.zero_add, Nat.mul_one, Int.toNat_natCast]
      · simp (maxSteps := 2000000) (disch := first | omega | assumption | (simp only [oneC_int, oneC_bool, oneC_str, oneC_ptr, oneC_sl, oneC_map]; done) | (simp only [List.length_cons, List.length_nil, List.length_set, List.length_map, List.length_replicate, List.length_append, List.length_take, List.length_drop, Int.toNat_natCast] <;> omega) | fail) only [Go.Rx.vi, Go.Rx.vb, Go.Rx.vstr, rxc, rxo, Nat.reduceLeDiff, List.getElem?_cons_zero, List.getElem?_cons_succ, List.length_cons, List.length_nil, List.set_cons_zero, List.set_cons_succ, ↓reduceIte, Bool.not_true, Bool.not_false, true_and, and_true, not_true_eq_false, not_false_eq_true, decide_true, decide_false, Nat.reduceEqDiff, Nat.reduceAdd, Nat.reduceMul, Nat.reducePow, Int.reduceToNat, Int.reducePow, Nat.zero_add, Nat.mul_one, Int.toNat_natCast]; rfl
      · intro j; simp [AnyM]
    · rintro mm e h' ⟨i, u, o, rfl, hi, e1, e2, e7, e49, e50, e51, ou, po, im, g⟩
      have r1 := ((q5.gp g2).gp g).r
      have gn := g.next
      simp (maxSteps := 2000000) (disch := first | omega | assumption | (simp only [oneC_int, oneC_bool, oneC_str, oneC_ptr, oneC_sl, oneC_map]; done) | (simp only [List.length_cons, List.length_nil, List.length_set, List.length_map, List.length_replicate, List.length_append, List.length_take, List.length_drop, Int.toNat_natCast] <;> omega) | fail) only [Go.Rx.vi, Go.Rx.vb, Go.Rx.vstr, rxc, rxo, Nat.reduceLeDiff, List.getElem?_cons_zero, List.getElem?_cons_succ, List.length_cons, List.length_nil, List.set_cons_zero, List.set_cons_succ, ↓reduceIte, Bool.not_true, Bool.not_false, true_and, and_true, not_true_eq_false, not_false_eq_true, decide_true, decide_false, Nat.reduceEqDiff, Nat.reduceAdd, Nat.reduceMul, Nat.reducePow, Int.reduceToNat, Int.reducePow, Nat.zero_add, Nat.mul_one, Int.toNat_natCast, B52_2, R52_21, e50, e51]
      refine WCond_dec (fun hc => ?_) (fun hc => ?_)
      · obtain ⟨p, hpi, hpc⟩ := q6.get (i := i) (by omega)
        obtain ⟨p1, p2, p3, pv', pss', p4, p5, p6⟩ := hpc.b
        simp (maxSteps := 2000000) (disch := first | omega | assumption | (simp only [oneC_int, oneC_bool, oneC_str, oneC_ptr, oneC_sl, oneC_map]; done) | (simp only [List.length_cons, List.length_nil, List.length_set, List.length_map, List.length_replicate, List.length_append, List.length_take, List.length_drop, Int.toNat_natCast] <;> omega) | fail) only [Go.Rx.vi, Go.Rx.vb, Go.Rx.vstr, rxc, rxo, Nat.reduceLeDiff, List.getElem?_cons_zero, List.getElem?_cons_succ, List.length_cons, List.length_nil, List.set_cons_zero, List.set_cons_succ, ↓reduceIte, Bool.not_true, Bool.not_false, true_and, and_true, not_true_eq_false, not_false_eq_true, decide_true, decide_false, Nat.reduceEqDiff, Nat.reduceAdd, Nat.reduceMul, Nat.reducePow, Int.reduceToNat, Int.reducePow, Nat.zero_add, Nat.mul_one, Int.toNat_natCast, R52_22, e1, e2, e7, e49, e50, e51, r1, p1, st6 p1 p2]
        obtain ⟨h4, e5, g4, n4, b4⟩ := boxed2 h' [.int .i64 0, .int .u64 0, .int .u64 0, .int .u64 0, .int .u64 0, .slice none 0 0] (pss.getD i []) 48
        rw [e5]
        simp (maxSteps := 2000000) (disch := first | omega | assumption | (simp only [oneC_int, oneC_bool, oneC_str, oneC_ptr, oneC_sl, oneC_map]; done) | (simp only [List.length_cons, List.length_nil, List.length_set, List.length_map, List.length_replicate, List.length_append, List.length_take, List.length_drop, Int.toNat_natCast] <;> omega) | fail) only [Go.Rx.vi, Go.Rx.vb, Go.Rx.vstr, rxc, rxo, Nat.reduceLeDiff, List.getElem?_cons_zero, List.getElem?_cons_succ, List.length_cons, List.length_nil, List.set_cons_zero, List.set_cons_succ, ↓reduceIte, Bool.not_true, Bool.not_false, true_and, and_true, not_true_eq_false, not_false_eq_true, decide_true, decide_false, Nat.reduceEqDiff, Nat.reduceAdd, Nat.reduceMul, Nat.reducePow, Int.reduceToNat, Int.reducePow, Nat.zero_add, Nat.mul_one, Int.toNat_natCast, R52_23, e1, e2, e7, b4, p1, cut_all p1]
        refine IH p (List.mem_of_getElem? hpi) (by omega) (((hpc.gp g2).gp g).gp g4) (((hv.gp g2).gp g).gp g4) hp ?_
        intro u' o' h5 ou' po' im' g5
        have n5 := g5.next
        have l1 := po.len
        have l2 := po'.len
        simp (maxSteps := 2000000) (disch := first | omega | assumption | (simp only [oneC_int, oneC_bool, oneC_str, oneC_ptr, oneC_sl, oneC_map]; done) | (simp only [List.length_cons, List.length_nil, List.length_set, List.length_map, List.length_replicate, List.length_append, List.length_take, List.length_drop, Int.toNat_natCast] <;> omega) | fail) only [Go.Rx.vi, Go.Rx.vb, Go.Rx.vstr, rxc, rxo, Nat.reduceLeDiff, List.getElem?_cons_zero, List.getElem?_cons_succ, List.length_cons, List.length_nil, List.set_cons_zero, List.set_cons_succ, ↓reduceIte, Bool.not_true, Bool.not_false, true_and, and_true, not_true_eq_false, not_false_eq_true, decide_true, decide_false, Nat.reduceEqDiff, Nat.reduceAdd, Nat.reduceMul, Nat.reducePow, Int.reduceToNat, Int.reducePow, Nat.zero_add, Nat.mul_one, Int.toNat_natCast, e7]
        refine both_ok m.mono m.o76 m.f76 (by omega) ((ou.gp g4).gp g5) ou' (by omega) (by omega) ?_
        intro u6 h6 o6 g6 b6
        simp (maxSteps := 2000000) (disch := first | omega | assumption | (simp only [oneC_int, oneC_bool, oneC_str, oneC_ptr, oneC_sl, oneC_map]; done) | (simp only [List.length_cons, List.length_nil, List.length_set, List.length_map, List.length_replicate, List.length_append, List.length_take, List.length_drop, Int.toNat_natCast] <;> omega) | fail) only [Go.Rx.vi, Go.Rx.vb, Go.Rx.vstr, rxc, rxo, Nat.reduceLeDiff, List.getElem?_cons_zero, List.getElem?_cons_succ, List.length_cons, List.length_nil, List.set_cons_zero, List.set_cons_succ, ↓reduceIte, Bool.not_true, Bool.not_false, true_and, and_true, not_true_eq_false, not_false_eq_true, decide_true, decide_false, Nat.reduceEqDiff, Nat.reduceAdd, Nat.reduceMul, Nat.reducePow, Int.reduceToNat, Int.reducePow, Nat.zero_add, Nat.mul_one, Int.toNat_natCast, R52_24, e1, e2, e49, e50, e51]
        refine ⟨_, ?_, i + 1, u6, mrg o o', rfl, by omega, rfl, ?_, o6.v, po.mrg po', ?_, ((g.trans g4).trans g5).trans g6⟩
        · omega
        · simp
        · intro j
          rw [mrg_mem, im j, im' j, List.take_add_one, hpi]
          constructor
          · rintro (⟨a, ha, hs⟩ | ⟨a, ha, hs⟩)
            · exact ⟨a, ha, AnyM_snoc.2 (.inl hs)⟩
            · exact ⟨a, ha, AnyM_snoc.2 (.inr hs)⟩
          · rintro ⟨a, ha, hs⟩
            rcases AnyM_snoc.1 hs with hs | hs
            · exact .inl ⟨a, ha, hs⟩
            · exact .inr ⟨a, ha, hs⟩
      · simp (maxSteps := 2000000) (disch := first | omega | assumption | (simp only [oneC_int, oneC_bool, oneC_str, oneC_ptr, oneC_sl, oneC_map]; done) | (simp only [List.length_cons, List.length_nil, List.length_set, List.length_map, List.length_replicate, List.length_append, List.length_take, List.length_drop, Int.toNat_natCast] <;> omega) | fail) only [Go.Rx.vi, Go.Rx.vb, Go.Rx.vstr, rxc, rxo, Nat.reduceLeDiff, List.getElem?_cons_zero, List.getElem?_cons_succ, List.length_cons, List.length_nil, List.set_cons_zero, List.set_cons_succ, ↓reduceIte, Bool.not_true, Bool.not_false, true_and, and_true, not_true_eq_false, not_false_eq_true, decide_true, decide_false, Nat.reduceEqDiff, Nat.reduceAdd, Nat.reduceMul, Nat.reducePow, Int.reduceToNat, Int.reducePow, Nat.zero_add, Nat.mul_one, Int.toNat_natCast, e7]
        rw [List.take_of_length_le (by omega)] at im
        exact ⟨u, o, rfl, ou, po, im, g⟩
    · rintro e h' ⟨u, o, e7, ou, po, im, g⟩
      simp (maxSteps := 2000000) (disch := first | omega | assumption | (simp only [oneC_int, oneC_bool, oneC_str, oneC_ptr, oneC_sl, oneC_map]; done) | (simp only [List.length_cons, List.length_nil, List.length_set, List.length_map, List.length_replicate, List.length_append, List.length_take, List.length_drop, Int.toNat_natCast] <;> omega) | fail) only [Go.Rx.vi, Go.Rx.vb, Go.Rx.vstr, rxc, rxo, Nat.reduceLeDiff, List.getElem?_cons_zero, List.getElem?_cons_succ, List.length_cons, List.length_nil, List.set_cons_zero, List.set_cons_succ, ↓reduceIte, Bool.not_true, Bool.not_false, true_and, and_true, not_true_eq_false, not_false_eq_true, decide_true, decide_false, Nat.reduceEqDiff, Nat.reduceAdd, Nat.reduceMul, Nat.reducePow, Int.reduceToNat, Int.reducePow, Nat.zero_add, Nat.mul_one, Int.toNat_natCast, R52_31, e7]
      refine hk _ _ _ ou po (fun j => ?_) (g2.trans g)
      rw [im j]
      constructor
      · rintro ⟨i, hi, hs⟩
        exact ⟨i, hi, Mt_kind.2 (.inr (.inr (.inr (.inl ⟨hk4, hs⟩))))⟩
      · rintro ⟨i, hi, hmt⟩
        refine ⟨i, hi, ?_⟩
        rcases Mt_kind.1 hmt with h | h | h | h | h | h | h
        · omega
        · omega
        · omega
        · exact h.2
        all_goals omega
  simp (maxSteps := 2000000) (disch := first | omega | assumption | (simp only [oneC_int, oneC_bool, oneC_str, oneC_ptr, oneC_sl, oneC_map]; done) | (simp only [List.length_cons, List.length_nil, List.length_set, List.length_map, List.length_replicate, List.length_append, List.length_take, List.length_drop, Int.toNat_natCast] <;> omega) | fail) only [Go.Rx.vi, Go.Rx.vb, Go.Rx.vstr, rxc, rxo, Nat.reduceLeDiff, List.getElem?_cons_zero, List.getElem?_cons_succ, List.length_cons, List.length_nil, List.set_cons_zero, List.set_cons_succ, ↓reduceIte, Bool.not_true, Bool.not_false, true_and, and_true, not_true_eq_false, not_false_eq_true, decide_true, decide_false, Nat.reduceEqDiff, Nat.reduceAdd, Nat.reduceMul, Nat.reducePow, Int.reduceToNat, Int.reducePow, Nat.zero_add, Nat.mul_one, Int.toNat_natCast, R52_25]
  refine WCond_dec (fun hk7 => ?_) (fun hk7 => ?_)
  · obtain ⟨p0, f0, f1, f2⟩ := get0 (by omega)
    have rp := (q5.gp g2).r
    simp (maxSteps := 2000000) (disch := first | omega | assumption | (simp only [oneC_int, oneC_bool, oneC_str, oneC_ptr, oneC_sl, oneC_map]; done) | (simp only [List.length_cons, List.length_nil, List.length_set, List.length_map, List.length_replicate, List.length_append, List.length_take, List.length_drop, Int.toNat_natCast] <;> omega) | fail) only [Go.Rx.vi, Go.Rx.vb, Go.Rx.vstr, rxc, rxo, Nat.reduceLeDiff, List.getElem?_cons_zero, List.getElem?_cons_succ, List.length_cons, List.length_nil, List.set_cons_zero, List.set_cons_succ, ↓reduceIte, Bool.not_true, Bool.not_false, true_and, and_true, not_true_eq_false, not_false_eq_true, decide_true, decide_false, Nat.reduceEqDiff, Nat.reduceAdd, Nat.reduceMul, Nat.reducePow, Int.reduceToNat, Int.reducePow, Nat.zero_add, Nat.mul_one, Int.toNat_natCast, R52_26, b2, q4, rp]
    refine IH p0 f1 (by omega) (f2.gp g2) (hv.gp g2) hp ?_
    intro u' o' h5 ou' po' im' g5
    have n5 := g5.next
    have l2 := po'.len
    simp (maxSteps := 2000000) (disch := first | omega | assumption | (simp only [oneC_int, oneC_bool, oneC_str, oneC_ptr, oneC_sl, oneC_map]; done) | (simp only [List.length_cons, List.length_nil, List.length_set, List.length_map, List.length_replicate, List.length_append, List.length_take, List.length_drop, Int.toNat_natCast] <;> omega) | fail) only [Go.Rx.vi, Go.Rx.vb, Go.Rx.vstr, rxc, rxo, Nat.reduceLeDiff, List.getElem?_cons_zero, List.getElem?_cons_succ, List.length_cons, List.length_nil, List.set_cons_zero, List.set_cons_succ, ↓reduceIte, Bool.not_true, Bool.not_false, true_and, and_true, not_true_eq_false, not_false_eq_true, decide_true, decide_false, Nat.reduceEqDiff, Nat.reduceAdd, Nat.reduceMul, Nat.reducePow, Int.reduceToNat, Int.reducePow, Nat.zero_add, Nat.mul_one, Int.toNat_natCast]
    refine both_ok m.mono m.o76 m.f76 (by omega) ((hv.gp g2).gp g5) ou' (by omega) (by omega) ?_
    intro u6 h6 o6 g6 b6
    simp (maxSteps := 2000000) (disch := first | omega | assumption | (simp only [oneC_int, oneC_bool, oneC_str, oneC_ptr, oneC_sl, oneC_map]; done) | (simp only [List.length_cons, List.length_nil, List.length_set, List.length_map, List.length_replicate, List.length_append, List.length_take, List.length_drop, Int.toNat_natCast] <;> omega) | fail) only [Go.Rx.vi, Go.Rx.vb, Go.Rx.vstr, rxc, rxo, Nat.reduceLeDiff, List.getElem?_cons_zero, List.getElem?_cons_succ, List.length_cons, List.length_nil, List.set_cons_zero, List.set_cons_succ, ↓reduceIte, Bool.not_true, Bool.not_false, true_and, and_true, not_true_eq_false, not_false_eq_true, decide_true, decide_false, Nat.reduceEqDiff, Nat.reduceAdd, Nat.reduceMul, Nat.reducePow, Int.reduceToNat, Int.reducePow, Nat.zero_add, Nat.mul_one, Int.toNat_natCast]
    refine hk _ _ _ o6.v (hp.mrg po') (fun j => ?_) ((g2.trans g5).trans g6)
    rw [mrg_mem, im' j]
    constructor
    · rintro (h | ⟨a, ha, hs⟩)
      · exact ⟨j, h, Mt_kind.2 (.inr (.inr (.inr (.inr (.inl ⟨hk7, .inl rfl⟩)))))⟩
      · exact ⟨a, ha, Mt_kind.2 (.inr (.inr (.inr (.inr (.inl ⟨hk7, .inr ((hd0 f0 _ _).2 hs)⟩)))))⟩
    · rintro ⟨i, hi, hmt⟩
      rcases Mt_kind.1 hmt with h | h | h | h | h | h | h
      · omega
      · omega
      · omega
      · omega
      · rcases h.2 with h | h
        · exact .inl (by rw [← h]; exact hi)
        · exact .inr ⟨i, hi, (hd0 f0 _ _).1 h⟩
      all_goals omega
  simp (maxSteps := 2000000) (disch := first | omega | assumption | (simp only [oneC_int, oneC_bool, oneC_str, oneC_ptr, oneC_sl, oneC_map]; done) | (simp only [List.length_cons, List.length_nil, List.length_set, List.length_map, List.length_replicate, List.length_append, List.length_take, List.length_drop, Int.toNat_natCast] <;> omega) | fail) only [Go.Rx.vi, Go.Rx.vb, Go.Rx.vstr, rxc, rxo, Nat.reduceLeDiff, List.getElem?_cons_zero, List.getElem?_cons_succ, List.length_cons, List.length_nil, List.set_cons_zero, List.set_cons_succ, ↓reduceIte, Bool.not_true, Bool.not_false, true_and, and_true, not_true_eq_false, not_false_eq_true, decide_true, decide_false, Nat.reduceEqDiff, Nat.reduceAdd, Nat.reduceMul, Nat.reducePow, Int.reduceToNat, Int.reducePow, Nat.zero_add, Nat.mul_one, Int.toNat_natCast, R52_27]
  have star0 : ∀ {p0 : RegD}, ps[0]? = some p0 → ∀ i j, Star (fun a b => HdM t ps a b) i j ↔ Star (Mt t p0) i j := by
    intro p0 f0 i j
    have : (fun a b => HdM t ps a b) = Mt t p0 := by
      funext a b
      exact propext (hd0 f0 a b)
    rw [this]
  refine WCond_dec (fun hk6 => ?_) (fun hk6 => ?_)
  · obtain ⟨p0, f0, f1, f2⟩ := get0 (by omega)
    have rp := (q5.gp g2).r
    have sref := sameA_ref q5
    have sreg := RegC.same f2
    simp (maxSteps := 2000000) (disch := first | omega | assumption | (simp only [oneC_int, oneC_bool, oneC_str, oneC_ptr, oneC_sl, oneC_map]; done) | (simp only [List.length_cons, List.length_nil, List.length_set, List.length_map, List.length_replicate, List.length_append, List.length_take, List.length_drop, Int.toNat_natCast] <;> omega) | fail) only [Go.Rx.vi, Go.Rx.vb, Go.Rx.vstr, rxc, rxo, Nat.reduceLeDiff, List.getElem?_cons_zero, List.getElem?_cons_succ, List.length_cons, List.length_nil, List.set_cons_zero, List.set_cons_succ, ↓reduceIte, Bool.not_true, Bool.not_false, true_and, and_true, not_true_eq_false, not_false_eq_true, decide_true, decide_false, Nat.reduceEqDiff, Nat.reduceAdd, Nat.reduceMul, Nat.reducePow, Int.reduceToNat, Int.reducePow, Nat.zero_add, Nat.mul_one, Int.toNat_natCast]
    refine WC_regd m.mono ?_
    simp (maxSteps := 2000000) (disch := first | omega | assumption | (simp only [oneC_int, oneC_bool, oneC_str, oneC_ptr, oneC_sl, oneC_map]; done) | (simp only [List.length_cons, List.length_nil, List.length_set, List.length_map, List.length_replicate, List.length_append, List.length_take, List.length_drop, Int.toNat_natCast] <;> omega) | fail) only [Go.Rx.vi, Go.Rx.vb, Go.Rx.vstr, rxc, rxo, Nat.reduceLeDiff, List.getElem?_cons_zero, List.getElem?_cons_succ, List.length_cons, List.length_nil, List.set_cons_zero, List.set_cons_succ, ↓reduceIte, Bool.not_true, Bool.not_false, true_and, and_true, not_true_eq_false, not_false_eq_true, decide_true, decide_false, Nat.reduceEqDiff, Nat.reduceAdd, Nat.reduceMul, Nat.reducePow, Int.reduceToNat, Int.reducePow, Nat.zero_add, Nat.mul_one, Int.toNat_natCast, R52_28, rxt, b2, q4, rp]
    refine IH p0 f1 (by omega) (f2.gp g2) (hv.gp g2) hp ?_
    intro u' o' h5 ou' po' im' g5
    have n5 := g5.next
    have b5 : h5.at h.next = _ := (g5.at_ _ h1 (by omega)).trans b2
    have rp5 := ((q5.gp g2).gp g5).r
    simp (maxSteps := 2000000) (disch := first | omega | assumption | (simp only [oneC_int, oneC_bool, oneC_str, oneC_ptr, oneC_sl, oneC_map]; done) | (simp only [List.length_cons, List.length_nil, List.length_set, List.length_map, List.length_replicate, List.length_append, List.length_take, List.length_drop, Int.toNat_natCast] <;> omega) | fail) only [Go.Rx.vi, Go.Rx.vb, Go.Rx.vstr, rxc, rxo, Nat.reduceLeDiff, List.getElem?_cons_zero, List.getElem?_cons_succ, List.length_cons, List.length_nil, List.set_cons_zero, List.set_cons_succ, ↓reduceIte, Bool.not_true, Bool.not_false, true_and, and_true, not_true_eq_false, not_false_eq_true, decide_true, decide_false, Nat.reduceEqDiff, Nat.reduceAdd, Nat.reduceMul, Nat.reducePow, Int.reduceToNat, Int.reducePow, Nat.zero_add, Nat.mul_one, Int.toNat_natCast, rxt]
    refine again_ok m.mono m.bs m.o77 m.f77 m.o91 m.f91 m.o92 m.f92 m.o76 m.f76 ht (IH p0 f1) (by omega) ((f2.gp g2).gp g5) ou' po' ?_
    intro u6 o6 h6 ou6 po6 im6 g6
    simp (maxSteps := 2000000) (disch := first | omega | assumption | (simp only [oneC_int, oneC_bool, oneC_str, oneC_ptr, oneC_sl, oneC_map]; done) | (simp only [List.length_cons, List.length_nil, List.length_set, List.length_map, List.length_replicate, List.length_append, List.length_take, List.length_drop, Int.toNat_natCast] <;> omega) | fail) only [Go.Rx.vi, Go.Rx.vb, Go.Rx.vstr, rxc, rxo, Nat.reduceLeDiff, List.getElem?_cons_zero, List.getElem?_cons_succ, List.length_cons, List.length_nil, List.set_cons_zero, List.set_cons_succ, ↓reduceIte, Bool.not_true, Bool.not_false, true_and, and_true, not_true_eq_false, not_false_eq_true, decide_true, decide_false, Nat.reduceEqDiff, Nat.reduceAdd, Nat.reduceMul, Nat.reducePow, Int.reduceToNat, Int.reducePow, Nat.zero_add, Nat.mul_one, Int.toNat_natCast, rxt]
    refine ⟨staysAll_cons (h1 := h2) (h2 := h5) rfl rfl (stays_on (v := pv) (h' := h2) rfl ?_ ?_) (stays_on (v := pv) (h' := h5) rfl ?_ ?_) (staysAll_one (h1 := h2) (h2 := h5) rfl rfl (stays_on (v := .agg ⟨pss.getD 0 []⟩) (h' := h2) rfl ?_ ?_) (stays_on (v := .agg ⟨pss.getD 0 []⟩) (h' := h5) rfl ?_ ?_)), ?_⟩
    · simp (maxSteps := 2000000) (disch := first | omega | assumption | (simp only [oneC_int, oneC_bool, oneC_str, oneC_ptr, oneC_sl, oneC_map]; done) | (simp only [List.length_cons, List.length_nil, List.length_set, List.length_map, List.length_replicate, List.length_append, List.length_take, List.length_drop, Int.toNat_natCast] <;> omega) | fail) only [Go.Rx.vi, Go.Rx.vb, Go.Rx.vstr, rxc, rxo, Nat.reduceLeDiff, List.getElem?_cons_zero, List.getElem?_cons_succ, List.length_cons, List.length_nil, List.set_cons_zero, List.set_cons_succ, ↓reduceIte, Bool.not_true, Bool.not_false, true_and, and_true, not_true_eq_false, not_false_eq_true, decide_true, decide_false, Nat.reduceEqDiff, Nat.reduceAdd, Nat.reduceMul, Nat.reducePow, Int.reduceToNat, Int.reducePow, Nat.zero_add, Nat.mul_one, Int.toNat_natCast, b2, q4]
    · simp (maxSteps := 2000000) (disch := first | omega | assumption | (simp only [oneC_int, oneC_bool, oneC_str, oneC_ptr, oneC_sl, oneC_map]; done) | (simp only [List.length_cons, List.length_nil, List.length_set, List.length_map, List.length_replicate, List.length_append, List.length_take, List.length_drop, Int.toNat_natCast] <;> omega) | fail) only [Go.Rx.vi, Go.Rx.vb, Go.Rx.vstr, rxc, rxo, Nat.reduceLeDiff, List.getElem?_cons_zero, List.getElem?_cons_succ, List.length_cons, List.length_nil, List.set_cons_zero, List.set_cons_succ, ↓reduceIte, Bool.not_true, Bool.not_false, true_and, and_true, not_true_eq_false, not_false_eq_true, decide_true, decide_false, Nat.reduceEqDiff, Nat.reduceAdd, Nat.reduceMul, Nat.reducePow, Int.reduceToNat, Int.reducePow, Nat.zero_add, Nat.mul_one, Int.toNat_natCast, sref]
    · simp (maxSteps := 2000000) (disch := first | omega | assumption | (simp only [oneC_int, oneC_bool, oneC_str, oneC_ptr, oneC_sl, oneC_map]; done) | (simp only [List.length_cons, List.length_nil, List.length_set, List.length_map, List.length_replicate, List.length_append, List.length_take, List.length_drop, Int.toNat_natCast] <;> omega) | fail) only [Go.Rx.vi, Go.Rx.vb, Go.Rx.vstr, rxc, rxo, Nat.reduceLeDiff, List.getElem?_cons_zero, List.getElem?_cons_succ, List.length_cons, List.length_nil, List.set_cons_zero, List.set_cons_succ, ↓reduceIte, Bool.not_true, Bool.not_false, true_and, and_true, not_true_eq_false, not_false_eq_true, decide_true, decide_false, Nat.reduceEqDiff, Nat.reduceAdd, Nat.reduceMul, Nat.reducePow, Int.reduceToNat, Int.reducePow, Nat.zero_add, Nat.mul_one, Int.toNat_natCast, b5, q4]
    · simp (maxSteps := 2000000) (disch := first | omega | assumption | (simp only [oneC_int, oneC_bool, oneC_str, oneC_ptr, oneC_sl, oneC_map]; done) | (simp only [List.length_cons, List.length_nil, List.length_set, List.length_map, List.length_replicate, List.length_append, List.length_take, List.length_drop, Int.toNat_natCast] <;> omega) | fail) only [Go.Rx.vi, Go.Rx.vb, Go.Rx.vstr, rxc, rxo, Nat.reduceLeDiff, List.getElem?_cons_zero, List.getElem?_cons_succ, List.length_cons, List.length_nil, List.set_cons_zero, List.set_cons_succ, ↓reduceIte, Bool.not_true, Bool.not_false, true_and, and_true, not_true_eq_false, not_false_eq_true, decide_true, decide_false, Nat.reduceEqDiff, Nat.reduceAdd, Nat.reduceMul, Nat.reducePow, Int.reduceToNat, Int.reducePow, Nat.zero_add, Nat.mul_one, Int.toNat_natCast, sref]
    · simp (maxSteps := 2000000) (disch := first | omega | assumption | (simp only [oneC_int, oneC_bool, oneC_str, oneC_ptr, oneC_sl, oneC_map]; done) | (simp only [List.length_cons, List.length_nil, List.length_set, List.length_map, List.length_replicate, List.length_append, List.length_take, List.length_drop, Int.toNat_natCast] <;> omega) | fail) only [Go.Rx.vi, Go.Rx.vb, Go.Rx.vstr, rxc, rxo, Nat.reduceLeDiff, List.getElem?_cons_zero, List.getElem?_cons_succ, List.length_cons, List.length_nil, List.set_cons_zero, List.set_cons_succ, ↓reduceIte, Bool.not_true, Bool.not_false, true_and, and_true, not_true_eq_false, not_false_eq_true, decide_true, decide_false, Nat.reduceEqDiff, Nat.reduceAdd, Nat.reduceMul, Nat.reducePow, Int.reduceToNat, Int.reducePow, Nat.zero_add, Nat.mul_one, Int.toNat_natCast, rp]
    · simp (maxSteps := 2000000) (disch := first | omega | assumption | (simp only [oneC_int, oneC_bool, oneC_str, oneC_ptr, oneC_sl, oneC_map]; done) | (simp only [List.length_cons, List.length_nil, List.length_set, List.length_map, List.length_replicate, List.length_append, List.length_take, List.length_drop, Int.toNat_natCast] <;> omega) | fail) only [Go.Rx.vi, Go.Rx.vb, Go.Rx.vstr, rxc, rxo, Nat.reduceLeDiff, List.getElem?_cons_zero, List.getElem?_cons_succ, List.length_cons, List.length_nil, List.set_cons_zero, List.set_cons_succ, ↓reduceIte, Bool.not_true, Bool.not_false, true_and, and_true, not_true_eq_false, not_false_eq_true, decide_true, decide_false, Nat.reduceEqDiff, Nat.reduceAdd, Nat.reduceMul, Nat.reducePow, Int.reduceToNat, Int.reducePow, Nat.zero_add, Nat.mul_one, Int.toNat_natCast, sreg]
    · simp (maxSteps := 2000000) (disch := first | omega | assumption | (simp only [oneC_int, oneC_bool, oneC_str, oneC_ptr, oneC_sl, oneC_map]; done) | (simp only [List.length_cons, List.length_nil, List.length_set, List.length_map, List.length_replicate, List.length_append, List.length_take, List.length_drop, Int.toNat_natCast] <;> omega) | fail) only [Go.Rx.vi, Go.Rx.vb, Go.Rx.vstr, rxc, rxo, Nat.reduceLeDiff, List.getElem?_cons_zero, List.getElem?_cons_succ, List.length_cons, List.length_nil, List.set_cons_zero, List.set_cons_succ, ↓reduceIte, Bool.not_true, Bool.not_false, true_and, and_true, not_true_eq_false, not_false_eq_true, decide_true, decide_false, Nat.reduceEqDiff, Nat.reduceAdd, Nat.reduceMul, Nat.reducePow, Int.reduceToNat, Int.reducePow, Nat.zero_add, Nat.mul_one, Int.toNat_natCast, rp5]
    · simp (maxSteps := 2000000) (disch := first | omega | assumption | (simp only [oneC_int, oneC_bool, oneC_str, oneC_ptr, oneC_sl, oneC_map]; done) | (simp only [List.length_cons, List.length_nil, List.length_set, List.length_map, List.length_replicate, List.length_append, List.length_take, List.length_drop, Int.toNat_natCast] <;> omega) | fail) only [Go.Rx.vi, Go.Rx.vb, Go.Rx.vstr, rxc, rxo, Nat.reduceLeDiff, List.getElem?_cons_zero, List.getElem?_cons_succ, List.length_cons, List.length_nil, List.set_cons_zero, List.set_cons_succ, ↓reduceIte, Bool.not_true, Bool.not_false, true_and, and_true, not_true_eq_false, not_false_eq_true, decide_true, decide_false, Nat.reduceEqDiff, Nat.reduceAdd, Nat.reduceMul, Nat.reducePow, Int.reduceToNat, Int.reducePow, Nat.zero_add, Nat.mul_one, Int.toNat_natCast, sreg]
    simp (maxSteps := 2000000) (disch := first | omega | assumption | (simp only [oneC_int, oneC_bool, oneC_str, oneC_ptr, oneC_sl, oneC_map]; done) | (simp only [List.length_cons, List.length_nil, List.length_set, List.length_map, List.length_replicate, List.length_append, List.length_take, List.length_drop, Int.toNat_natCast] <;> omega) | fail) only [Go.Rx.vi, Go.Rx.vb, Go.Rx.vstr, rxc, rxo, Nat.reduceLeDiff, List.getElem?_cons_zero, List.getElem?_cons_succ, List.length_cons, List.length_nil, List.set_cons_zero, List.set_cons_succ, ↓reduceIte, Bool.not_true, Bool.not_false, true_and, and_true, not_true_eq_false, not_false_eq_true, decide_true, decide_false, Nat.reduceEqDiff, Nat.reduceAdd, Nat.reduceMul, Nat.reducePow, Int.reduceToNat, Int.reducePow, Nat.zero_add, Nat.mul_one, Int.toNat_natCast]
    refine hk _ _ _ ou6 po6 (fun j => ?_) ((g2.trans g5).trans g6)
    rw [im6 j]
    constructor
    · rintro ⟨a, ha, hs⟩
      obtain ⟨i, hi, hmt⟩ := (im' a).1 ha
      exact ⟨i, hi, Mt_kind.2 (.inr (.inr (.inr (.inr (.inr (.inl ⟨hk6, a, (hd0 f0 _ _).2 hmt, (star0 f0 _ _).2 hs⟩))))))⟩
    · rintro ⟨i, hi, hmt⟩
      rcases Mt_kind.1 hmt with h | h | h | h | h | h | h
      · omega
      · omega
      · omega
      · omega
      · omega
      · obtain ⟨_, a, h3, h4⟩ := h
        exact ⟨a, (im' a).2 ⟨i, hi, (hd0 f0 _ _).1 h3⟩, (star0 f0 _ _).1 h4⟩
      · omega
  simp (maxSteps := 2000000) (disch := first | omega | assumption | (simp only [oneC_int, oneC_bool, oneC_str, oneC_ptr, oneC_sl, oneC_map]; done) | (simp only [List.length_cons, List.length_nil, List.length_set, List.length_map, List.length_replicate, List.length_append, List.length_take, List.length_drop, Int.toNat_natCast] <;> omega) | fail) only [Go.Rx.vi, Go.Rx.vb, Go.Rx.vstr, rxc, rxo, Nat.reduceLeDiff, List.getElem?_cons_zero, List.getElem?_cons_succ, List.length_cons, List.length_nil, List.set_cons_zero, List.set_cons_succ, ↓reduceIte, Bool.not_true, Bool.not_false, true_and, and_true, not_true_eq_false, not_false_eq_true, decide_true, decide_false, Nat.reduceEqDiff, Nat.reduceAdd, Nat.reduceMul, Nat.reducePow, Int.reduceToNat, Int.reducePow, Nat.zero_add, Nat.mul_one, Int.toNat_natCast, R52_29]
  refine WCond_dec (fun hk5 => ?_) (fun hk5 => ?_)
  · obtain ⟨p0, f0, f1, f2⟩ := get0 (by omega)
    have rp := (q5.gp g2).r
    simp (maxSteps := 2000000) (disch := first | omega | assumption | (simp only [oneC_int, oneC_bool, oneC_str, oneC_ptr, oneC_sl, oneC_map]; done) | (simp only [List.length_cons, List.length_nil, List.length_set, List.length_map, List.length_replicate, List.length_append, List.length_take, List.length_drop, Int.toNat_natCast] <;> omega) | fail) only [Go.Rx.vi, Go.Rx.vb, Go.Rx.vstr, rxc, rxo, Nat.reduceLeDiff, List.getElem?_cons_zero, List.getElem?_cons_succ, List.length_cons, List.length_nil, List.set_cons_zero, List.set_cons_succ, ↓reduceIte, Bool.not_true, Bool.not_false, true_and, and_true, not_true_eq_false, not_false_eq_true, decide_true, decide_false, Nat.reduceEqDiff, Nat.reduceAdd, Nat.reduceMul, Nat.reducePow, Int.reduceToNat, Int.reducePow, Nat.zero_add, Nat.mul_one, Int.toNat_natCast, R52_30, b2, q4, rp]
    refine again_ok m.mono m.bs m.o77 m.f77 m.o91 m.f91 m.o92 m.f92 m.o76 m.f76 ht (IH p0 f1) (by omega) (f2.gp g2) (hv.gp g2) hp ?_
    intro u' o' h5 ou' po' im' g5
    simp (maxSteps := 2000000) (disch := first | omega | assumption | (simp only [oneC_int, oneC_bool, oneC_str, oneC_ptr, oneC_sl, oneC_map]; done) | (simp only [List.length_cons, List.length_nil, List.length_set, List.length_map, List.length_replicate, List.length_append, List.length_take, List.length_drop, Int.toNat_natCast] <;> omega) | fail) only [Go.Rx.vi, Go.Rx.vb, Go.Rx.vstr, rxc, rxo, Nat.reduceLeDiff, List.getElem?_cons_zero, List.getElem?_cons_succ, List.length_cons, List.length_nil, List.set_cons_zero, List.set_cons_succ, ↓reduceIte, Bool.not_true, Bool.not_false, true_and, and_true, not_true_eq_false, not_false_eq_true, decide_true, decide_false, Nat.reduceEqDiff, Nat.reduceAdd, Nat.reduceMul, Nat.reducePow, Int.reduceToNat, Int.reducePow, Nat.zero_add, Nat.mul_one, Int.toNat_natCast]
    refine hk _ _ _ ou' po' (fun j => ?_) (g2.trans g5)
    rw [im' j]
    constructor
    · rintro ⟨a, ha, hs⟩
      exact ⟨a, ha, Mt_kind.2 (.inr (.inr (.inr (.inr (.inr (.inr ⟨hk5, (star0 f0 _ _).2 hs⟩))))))⟩
    · rintro ⟨i, hi, hmt⟩
      rcases Mt_kind.1 hmt with h | h | h | h | h | h | h
      · omega
      · omega
      · omega
      · omega
      · omega
      · omega
      · exact ⟨i, hi, (star0 f0 _ _).1 h.2⟩
  · simp (maxSteps := 2000000) (disch := first | omega | assumption | (simp only [oneC_int, oneC_bool, oneC_str, oneC_ptr, oneC_sl, oneC_map]; done) | (simp only [List.length_cons, List.length_nil, List.length_set, List.length_map, List.length_replicate, List.length_append, List.length_take, List.length_drop, Int.toNat_natCast] <;> omega) | fail) only [Go.Rx.vi, Go.Rx.vb, Go.Rx.vstr, rxc, rxo, Nat.reduceLeDiff, List.getElem?_cons_zero, List.getElem?_cons_succ, List.length_cons, List.length_nil, List.set_cons_zero, List.set_cons_succ, ↓reduceIte, Bool.not_true, Bool.not_false, true_and, and_true, not_true_eq_false, not_false_eq_true, decide_true, decide_false, Nat.reduceEqDiff, Nat.reduceAdd, Nat.reduceMul, Nat.reducePow, Int.reduceToNat, Int.reducePow, Nat.zero_add, Nat.mul_one, Int.toNat_natCast, R52_31]
    refine hk _ [] _ (IO.nil (by omega)).v .nil (fun j => ?_) g2
    constructor
    · intro h; simp at h
    · rintro ⟨i, hi, hmt⟩
      rcases Mt_kind.1 hmt with h | h | h | h | h | h | h
      all_goals omega
end Go.Rx

namespace Go.Rx
variable {M : Mach}
set_option maxRecDepth 4000
set_option linter.unusedSimpArgs false
set_option linter.unusedVariables false

structure MatF (M : Mach) : Prop extends EndsF M where
  o22 : M.O 22 = none
  f22 : M.F 22 = some A22
  o51 : M.O 51 = none
  f51 : M.F 51 = some A51
  o55 : M.O 55 = none
  f55 : M.F 55 = some A55
  o60 : M.O 60 = none
  f60 : M.F 60 = some A60
  o74 : M.O 74 = none
  f74 : M.F 74 = some A74

theorem RegD.chk0 {r : RegD} (h : r.chk = 0) : r.size ≤ 512 ∧ r.depth ≤ 16 ∧ r.may = true := by
  unfold RegD.chk at h
  split at h
  · omega
  · split at h
    · omega
    · split at h
      · exact ⟨by omega, by omega, by assumption⟩
      · omega

/-- What Matches tells. -/
def matE (r : RegD) (t : List UInt8) : Int := if r.chk ≠ 0 then r.chk else if t.length > 65536 then 3 else 0
theorem matches_ok (m : MatF M) {t : List UInt8} {r : RegD} {cs : List Value} {h : Heap} {K : KF} (h1 : 1 ≤ h.next) (hr : RegC h r cs) (htl : t.length ≤ 9223372036854775807)
  (hk : ∀ b h', GrowP h h' → (b = true ↔ matE r t = 0 ∧ Mt t r 0 t.length) → K (.tuple ⟨[.bool b, .int .i64 (matE r t)]⟩) h') : WF M 22 [.agg ⟨cs⟩, vstr t] h K := by
  rw [WF_eqT 8 m.o22 m.f22]
  obtain ⟨q1, q2, q3, pv, pss, q4, q5, q6⟩ := hr.b
  simp (maxSteps := 2000000) (disch := first | omega | assumption | (simp only [oneC_int, oneC_bool, oneC_str, oneC_ptr, oneC_sl, oneC_map]; done) | (simp only [List.length_cons, List.length_nil, List.length_set, List.length_map, List.length_replicate, List.length_append, List.length_take, List.length_drop, Int.toNat_natCast] <;> omega) | fail) only [Go.Rx.vi, Go.Rx.vb, Go.Rx.vstr, rxc, rxo, Nat.reduceLeDiff, List.getElem?_cons_zero, List.getElem?_cons_succ, List.length_cons, List.length_nil, List.set_cons_zero, List.set_cons_succ, ↓reduceIte, Bool.not_true, Bool.not_false, true_and, and_true, not_true_eq_false, not_false_eq_true, decide_true, decide_false, Nat.reduceEqDiff, Nat.reduceAdd, Nat.reduceMul, Nat.reducePow, Int.reduceToNat, Int.reducePow, Nat.zero_add, Nat.mul_one, Int.toNat_natCast, A22, R22_0, q1]
  obtain ⟨h2, e2, g2, n2, b2⟩ := boxed h cs 48
  rw [e2]
  simp (maxSteps := 2000000) (disch := first | omega | assumption | (simp only [oneC_int, oneC_bool, oneC_str, oneC_ptr, oneC_sl, oneC_map]; done) | (simp only [List.length_cons, List.length_nil, List.length_set, List.length_map, List.length_replicate, List.length_append, List.length_take, List.length_drop, Int.toNat_natCast] <;> omega) | fail) only [Go.Rx.vi, Go.Rx.vb, Go.Rx.vstr, rxc, rxo, Nat.reduceLeDiff, List.getElem?_cons_zero, List.getElem?_cons_succ, List.length_cons, List.length_nil, List.set_cons_zero, List.set_cons_succ, ↓reduceIte, Bool.not_true, Bool.not_false, true_and, and_true, not_true_eq_false, not_false_eq_true, decide_true, decide_false, Nat.reduceEqDiff, Nat.reduceAdd, Nat.reduceMul, Nat.reducePow, Int.reduceToNat, Int.reducePow, Nat.zero_add, Nat.mul_one, Int.toNat_natCast, R22_1, b2, q1, cut_all q1]
  refine check_ok m.mono m.o51 m.f51 m.o55 m.f55 m.o60 m.f60 m.o74 m.f74 (by omega) (hr.gp g2) ?_
  intro h3 g3
  have b3 : h3.at h.next = _ := (g3.at_ _ h1 (by omega)).trans b2
  have n3 := g3.next
  unfold matE at hk
  simp (maxSteps := 2000000) (disch := first | omega | assumption | (simp only [oneC_int, oneC_bool, oneC_str, oneC_ptr, oneC_sl, oneC_map]; done) | (simp only [List.length_cons, List.length_nil, List.length_set, List.length_map, List.length_replicate, List.length_append, List.length_take, List.length_drop, Int.toNat_natCast] <;> omega) | fail) only [Go.Rx.vi, Go.Rx.vb, Go.Rx.vstr, rxc, rxo, Nat.reduceLeDiff, List.getElem?_cons_zero, List.getElem?_cons_succ, List.length_cons, List.length_nil, List.set_cons_zero, List.set_cons_succ, ↓reduceIte, Bool.not_true, Bool.not_false, true_and, and_true, not_true_eq_false, not_false_eq_true, decide_true, decide_false, Nat.reduceEqDiff, Nat.reduceAdd, Nat.reduceMul, Nat.reducePow, Int.reduceToNat, Int.reducePow, Nat.zero_add, Nat.mul_one, Int.toNat_natCast, R22_2]
  refine WCond_dec (fun hc => ?_) (fun hc => ?_)
  · simp (maxSteps := 2000000) (disch := first | omega | assumption | (simp only [oneC_int, oneC_bool, oneC_str, oneC_ptr, oneC_sl, oneC_map]; done) | (simp only [List.length_cons, List.length_nil, List.length_set, List.length_map, List.length_replicate, List.length_append, List.length_take, List.length_drop, Int.toNat_natCast] <;> omega) | fail) only [Go.Rx.vi, Go.Rx.vb, Go.Rx.vstr, rxc, rxo, Nat.reduceLeDiff, List.getElem?_cons_zero, List.getElem?_cons_succ, List.length_cons, List.length_nil, List.set_cons_zero, List.set_cons_succ, ↓reduceIte, Bool.not_true, Bool.not_false, true_and, and_true, not_true_eq_false, not_false_eq_true, decide_true, decide_false, Nat.reduceEqDiff, Nat.reduceAdd, Nat.reduceMul, Nat.reducePow, Int.reduceToNat, Int.reducePow, Nat.zero_add, Nat.mul_one, Int.toNat_natCast, R22_3]
    have := hk false h3 (g2.trans g3) (by rw [if_pos hc]; simp; intro h; exact absurd h hc)
    rw [if_pos hc] at this
    exact this
  · have hc0 : r.chk = 0 := by omega
    obtain ⟨c1, c2, c3⟩ := RegD.chk0 hc0
    rw [if_neg hc] at hk
    simp (maxSteps := 2000000) (disch := first | omega | assumption | (simp only [oneC_int, oneC_bool, oneC_str, oneC_ptr, oneC_sl, oneC_map]; done) | (simp only [List.length_cons, List.length_nil, List.length_set, List.length_map, List.length_replicate, List.length_append, List.length_take, List.length_drop, Int.toNat_natCast] <;> omega) | fail) only [Go.Rx.vi, Go.Rx.vb, Go.Rx.vstr, rxc, rxo, Nat.reduceLeDiff, List.getElem?_cons_zero, List.getElem?_cons_succ, List.length_cons, List.length_nil, List.set_cons_zero, List.set_cons_succ, ↓reduceIte, Bool.not_true, Bool.not_false, true_and, and_true, not_true_eq_false, not_false_eq_true, decide_true, decide_false, Nat.reduceEqDiff, Nat.reduceAdd, Nat.reduceMul, Nat.reducePow, Int.reduceToNat, Int.reducePow, Nat.zero_add, Nat.mul_one, Int.toNat_natCast, R22_4]
    refine WCond_dec (fun hl => ?_) (fun hl => ?_)
    · simp (maxSteps := 2000000) (disch := first | omega | assumption | (simp only [oneC_int, oneC_bool, oneC_str, oneC_ptr, oneC_sl, oneC_map]; done) | (simp only [List.length_cons, List.length_nil, List.length_set, List.length_map, List.length_replicate, List.length_append, List.length_take, List.length_drop, Int.toNat_natCast] <;> omega) | fail) only [Go.Rx.vi, Go.Rx.vb, Go.Rx.vstr, rxc, rxo, Nat.reduceLeDiff, List.getElem?_cons_zero, List.getElem?_cons_succ, List.length_cons, List.length_nil, List.set_cons_zero, List.set_cons_succ, ↓reduceIte, Bool.not_true, Bool.not_false, true_and, and_true, not_true_eq_false, not_false_eq_true, decide_true, decide_false, Nat.reduceEqDiff, Nat.reduceAdd, Nat.reduceMul, Nat.reducePow, Int.reduceToNat, Int.reducePow, Nat.zero_add, Nat.mul_one, Int.toNat_natCast, R22_5]
      have := hk false h3 (g2.trans g3) (by rw [if_pos (by omega)]; simp)
      rw [if_pos (by omega)] at this
      exact this
    · rw [if_neg (by omega)] at hk
      simp (maxSteps := 2000000) (disch := first | omega | assumption | (simp only [oneC_int, oneC_bool, oneC_str, oneC_ptr, oneC_sl, oneC_map]; done) | (simp only [List.length_cons, List.length_nil, List.length_set, List.length_map, List.length_replicate, List.length_append, List.length_take, List.length_drop, Int.toNat_natCast] <;> omega) | fail) only [Go.Rx.vi, Go.Rx.vb, Go.Rx.vstr, rxc, rxo, Nat.reduceLeDiff, List.getElem?_cons_zero, List.getElem?_cons_succ, List.length_cons, List.length_nil, List.set_cons_zero, List.set_cons_succ, ↓reduceIte, Bool.not_true, Bool.not_false, true_and, and_true, not_true_eq_false, not_false_eq_true, decide_true, decide_false, Nat.reduceEqDiff, Nat.reduceAdd, Nat.reduceMul, Nat.reducePow, Int.reduceToNat, Int.reducePow, Nat.zero_add, Nat.mul_one, Int.toNat_natCast, R22_6, b3, q1, cut_all q1]
      refine ends_ok m.toEndsF (by omega) r c3 (by omega) (by simp) (((hr.gp g2).gp g3).gp (Grow.refl _).new.p) (IO.one (by omega)).v ⟨by simp [Rise], by simp⟩ ?_
      intro v' l' h4 ov po im g4
      have hL := po.len
      have rl := ov.r
      have gg := (g2.trans g3).trans g4.new1
      have hiff : (t.length : Int) ∈ l' ↔ Mt t r 0 t.length := by
        rw [im t.length]
        constructor
        · rintro ⟨i, hi, hmt⟩
          have : i = 0 := by simp at hi; omega
          rw [← this]; exact hmt
        · intro hmt; exact ⟨0, by simp, hmt⟩
      simp (maxSteps := 2000000) (disch := first | omega | assumption | (simp only [oneC_int, oneC_bool, oneC_str, oneC_ptr, oneC_sl, oneC_map]; done) | (simp only [List.length_cons, List.length_nil, List.length_set, List.length_map, List.length_replicate, List.length_append, List.length_take, List.length_drop, Int.toNat_natCast] <;> omega) | fail) only [Go.Rx.vi, Go.Rx.vb, Go.Rx.vstr, rxc, rxo, Nat.reduceLeDiff, List.getElem?_cons_zero, List.getElem?_cons_succ, List.length_cons, List.length_nil, List.set_cons_zero, List.set_cons_succ, ↓reduceIte, Bool.not_true, Bool.not_false, true_and, and_true, not_true_eq_false, not_false_eq_true, decide_true, decide_false, Nat.reduceEqDiff, Nat.reduceAdd, Nat.reduceMul, Nat.reducePow, Int.reduceToNat, Int.reducePow, Nat.zero_add, Nat.mul_one, Int.toNat_natCast, R22_7, rl]
      by_cases hz : (0 : Int) < l'.length
      · simp only [hz, decide_true]
        have hlast : ((l'.length : Int) - 1).toNat = l'.length - 1 := by omega
        simp (maxSteps := 2000000) (disch := first | omega | assumption | (simp only [oneC_int, oneC_bool, oneC_str, oneC_ptr, oneC_sl, oneC_map]; done) | (simp only [List.length_cons, List.length_nil, List.length_set, List.length_map, List.length_replicate, List.length_append, List.length_take, List.length_drop, Int.toNat_natCast] <;> omega) | fail) only [Go.Rx.vi, Go.Rx.vb, Go.Rx.vstr, rxc, rxo, Nat.reduceLeDiff, List.getElem?_cons_zero, List.getElem?_cons_succ, List.length_cons, List.length_nil, List.set_cons_zero, List.set_cons_succ, ↓reduceIte, Bool.not_true, Bool.not_false, true_and, and_true, not_true_eq_false, not_false_eq_true, decide_true, decide_false, Nat.reduceEqDiff, Nat.reduceAdd, Nat.reduceMul, Nat.reducePow, Int.reduceToNat, Int.reducePow, Nat.zero_add, Nat.mul_one, Int.toNat_natCast, rl, hlast]
        refine hk _ h4 gg ?_
        rw [decide_eq_true_iff]
        simp only [true_and]
        rw [← hiff]
        constructor
        · intro he
          exact mem_getD.2 ⟨l'.length - 1, by omega, he⟩
        · intro hm
          obtain ⟨i, hi, he⟩ := mem_getD.1 hm
          obtain ⟨_, h5, h6⟩ := po.get (i := l'.length - 1) (by omega)
          by_cases hil : i = l'.length - 1
          · rw [← hil]; exact he
          · have := po.rise.lt (i := i) (j := l'.length - 1) (by omega) (by omega)
            omega
      · simp only [hz, decide_false]
        simp (maxSteps := 2000000) (disch := first | omega | assumption | (simp only [oneC_int, oneC_bool, oneC_str, oneC_ptr, oneC_sl, oneC_map]; done) | (simp only [List.length_cons, List.length_nil, List.length_set, List.length_map, List.length_replicate, List.length_append, List.length_take, List.length_drop, Int.toNat_natCast] <;> omega) | fail) only [Go.Rx.vi, Go.Rx.vb, Go.Rx.vstr, rxc, rxo, Nat.reduceLeDiff, List.getElem?_cons_zero, List.getElem?_cons_succ, List.length_cons, List.length_nil, List.set_cons_zero, List.set_cons_succ, ↓reduceIte, Bool.not_true, Bool.not_false, true_and, and_true, not_true_eq_false, not_false_eq_true, decide_true, decide_false, Nat.reduceEqDiff, Nat.reduceAdd, Nat.reduceMul, Nat.reducePow, Int.reduceToNat, Int.reducePow, Nat.zero_add, Nat.mul_one, Int.toNat_natCast]
        refine hk _ h4 gg ?_
        have : l' = [] := List.length_eq_zero_iff.1 (by omega)
        subst this
        rw [← hiff]
        simp
end Go.Rx

namespace Go.Rx
set_option linter.unusedVariables false
set_option linter.unusedSimpArgs false

theorem Star.le {R : Nat → Nat → Prop} (hR : ∀ i j, R i j → i ≤ j) {i j : Nat} (h : Star R i j) : i ≤ j := by
  induction h with
  | refl _ => exact Nat.le_refl _
  | step h _ ih => exact Nat.le_trans (hR _ _ h) ih
theorem Mt_le {t : List UInt8} (r : RegD) : ∀ i j, Mt t r i j → i ≤ j := by
  refine RegD.ind (P := fun r => ∀ i j, Mt t r i j → i ≤ j) ?_ r
  intro k s ps ih i j h
  have hseq : ∀ (ps : List RegD), (∀ p ∈ ps, ∀ i j, Mt t p i j → i ≤ j) → ∀ i j, SeqM t ps i j → i ≤ j := by
    intro ps
    induction ps with
    | nil => intro _ i j h; rw [SeqM] at h; omega
    | cons p ps ih2 =>
      intro hh i j h
      rw [SeqM] at h
      obtain ⟨m, h1, h2⟩ := h
      exact Nat.le_trans (hh p (by simp) _ _ h1) (ih2 (fun q hq => hh q (by simp [hq])) _ _ h2)
  have hany : ∀ (ps : List RegD), (∀ p ∈ ps, ∀ i j, Mt t p i j → i ≤ j) → ∀ i j, AnyM t ps i j → i ≤ j := by
    intro ps
    induction ps with
    | nil => intro _ i j h; rw [AnyM] at h; exact h.elim
    | cons p ps ih2 =>
      intro hh i j h
      rw [AnyM] at h
      rcases h with h | h
      · exact hh p (by simp) _ _ h
      · exact ih2 (fun q hq => hh q (by simp [hq])) _ _ h
  have hhd : ∀ i j, HdM t ps i j → i ≤ j := by
    intro i j h
    cases ps with
    | nil => rw [HdM] at h; exact h.elim
    | cons p ps => rw [HdM] at h; exact ih p (by simp) _ _ h
  rcases Mt_kind.1 h with h | h | h | h | h | h | h
  · omega
  · omega
  · exact hseq ps ih _ _ h.2
  · exact hany ps ih _ _ h.2
  · rcases h.2 with h | h
    · omega
    · exact hhd _ _ h
  · obtain ⟨_, m, h1, h2⟩ := h
    exact Nat.le_trans (hhd _ _ h1) (Star.le hhd h2)
  · exact Star.le hhd h.2
theorem HdM_le {t : List UInt8} {ps : List RegD} (i j : Nat) (h : HdM t ps i j) : i ≤ j := by
  cases ps with
  | nil => rw [HdM] at h; exact h.elim
  | cons p ps => rw [HdM] at h; exact Mt_le p _ _ h
theorem SeqM_le {t : List UInt8} : ∀ (ps : List RegD) (i j : Nat), SeqM t ps i j → i ≤ j
  | [], i, j, h => by rw [SeqM] at h; omega
  | p :: ps, i, j, h => by
    rw [SeqM] at h
    obtain ⟨m, h1, h2⟩ := h
    exact Nat.le_trans (Mt_le p _ _ h1) (SeqM_le ps _ _ h2)

theorem Star.congr_le {R S : Nat → Nat → Prop} {k : Nat} (hR : ∀ i j, R i j → i ≤ j) (h : ∀ i j, j ≤ k → R i j → S i j) {i j : Nat} (hs : Star R i j) (hj : j ≤ k) : Star S i j := by
  induction hs with
  | refl _ => exact .refl _
  | step h1 h2 ih => exact .step (h _ _ (Nat.le_trans (Star.le hR h2) hj) h1) (ih hj)

theorem Mt_take {t : List UInt8} {k : Nat} (r : RegD) : ∀ i j, j ≤ k → (Mt (t.take k) r i j ↔ Mt t r i j) := by
  refine RegD.ind (P := fun r => ∀ i j, j ≤ k → (Mt (t.take k) r i j ↔ Mt t r i j)) ?_ r
  intro kd s ps ih i j hj
  have hseq : ∀ (ps : List RegD), (∀ p ∈ ps, ∀ i j, j ≤ k → (Mt (t.take k) p i j ↔ Mt t p i j)) → ∀ i j, j ≤ k → (SeqM (t.take k) ps i j ↔ SeqM t ps i j) := by
    intro ps
    induction ps with
    | nil => intro _ i j _; rw [SeqM, SeqM]
    | cons p ps ih2 =>
      intro hh i j hj
      rw [SeqM, SeqM]
      constructor
      · rintro ⟨m, h1, h2⟩
        exact ⟨m, (hh p (by simp) _ _ (Nat.le_trans (SeqM_le _ _ _ h2) hj)).1 h1, (ih2 (fun q hq => hh q (by simp [hq])) _ _ hj).1 h2⟩
      · rintro ⟨m, h1, h2⟩
        exact ⟨m, (hh p (by simp) _ _ (Nat.le_trans (SeqM_le _ _ _ h2) hj)).2 h1, (ih2 (fun q hq => hh q (by simp [hq])) _ _ hj).2 h2⟩
  have hany : ∀ (ps : List RegD), (∀ p ∈ ps, ∀ i j, j ≤ k → (Mt (t.take k) p i j ↔ Mt t p i j)) → ∀ i j, j ≤ k → (AnyM (t.take k) ps i j ↔ AnyM t ps i j) := by
    intro ps
    induction ps with
    | nil => intro _ i j _; rw [AnyM, AnyM]
    | cons p ps ih2 =>
      intro hh i j hj
      rw [AnyM, AnyM, hh p (by simp) _ _ hj, ih2 (fun q hq => hh q (by simp [hq])) _ _ hj]
  have hhd : ∀ i j, j ≤ k → (HdM (t.take k) ps i j ↔ HdM t ps i j) := by
    intro i j hj
    cases ps with
    | nil => rw [HdM, HdM]
    | cons p ps => rw [HdM, HdM]; exact ih p (by simp) _ _ hj
  have hst : ∀ i j, j ≤ k → (Star (fun a b => HdM (t.take k) ps a b) i j ↔ Star (fun a b => HdM t ps a b) i j) := fun i j hj =>
    ⟨fun h => h.congr_le HdM_le (fun a b hb => (hhd a b hb).1) hj, fun h => h.congr_le HdM_le (fun a b hb => (hhd a b hb).2) hj⟩
  have hpl : ∀ i j, j ≤ k → ((∃ m, HdM (t.take k) ps i m ∧ Star (fun a b => HdM (t.take k) ps a b) m j) ↔ ∃ m, HdM t ps i m ∧ Star (fun a b => HdM t ps a b) m j) := by
    intro i j hj
    constructor
    · rintro ⟨m, h1, h2⟩
      exact ⟨m, (hhd _ _ (Nat.le_trans (Star.le HdM_le h2) hj)).1 h1, (hst _ _ hj).1 h2⟩
    · rintro ⟨m, h1, h2⟩
      exact ⟨m, (hhd _ _ (Nat.le_trans (Star.le HdM_le h2) hj)).2 h1, (hst _ _ hj).2 h2⟩
  have hb : j = i + 1 → ((i < (t.take k).length ∧ hasS s ((t.take k).getD i 0).toNat = true) ↔ (i < t.length ∧ hasS s (t.getD i 0).toNat = true)) := by
    intro e
    have h1 : i < (t.take k).length ↔ i < t.length := by rw [List.length_take]; omega
    have h2 : (t.take k).getD i 0 = t.getD i 0 := by
      rw [List.getD_eq_getElem?_getD, List.getD_eq_getElem?_getD, List.getElem?_take, if_pos (by omega)]
    rw [h1, h2]
  rw [Mt_kind, Mt_kind, hseq ps ih _ _ hj, hany ps ih _ _ hj, hhd _ _ hj, hst _ _ hj, hpl _ _ hj]
  have hb' : (kd = 2 ∧ j = i + 1 ∧ i < (t.take k).length ∧ hasS s ((t.take k).getD i 0).toNat = true) ↔ (kd = 2 ∧ j = i + 1 ∧ i < t.length ∧ hasS s (t.getD i 0).toNat = true) := by
    constructor
    · rintro ⟨a, b, c⟩; exact ⟨a, b, (hb b).1 c⟩
    · rintro ⟨a, b, c⟩; exact ⟨a, b, (hb b).2 c⟩
  rw [hb']

theorem Star.shift {R S : Nat → Nat → Prop} {k : Nat} (h : ∀ i j, R i j → S (i + k) (j + k)) {i j : Nat} (hs : Star R i j) : Star S (i + k) (j + k) := by
  induction hs with
  | refl _ => exact .refl _
  | step h1 _ ih => exact .step (h _ _ h1) ih
theorem Star.unshift {R S : Nat → Nat → Prop} {k : Nat} (hS : ∀ i j, S i j → i ≤ j) (h : ∀ i j, S (i + k) (j + k) → R i j) {i j : Nat} (hs : Star S i j) : k ≤ i → Star R (i - k) (j - k) := by
  induction hs with
  | refl _ => intro _; exact .refl _
  | step h1 h2 ih =>
    rename_i a b c
    intro ha
    have hab := hS _ _ h1
    exact .step (h _ _ (by rw [Nat.sub_add_cancel ha, Nat.sub_add_cancel (Nat.le_trans ha hab)]; exact h1)) (ih (Nat.le_trans ha hab))

theorem Mt_drop {t : List UInt8} {k : Nat} (r : RegD) : ∀ i j, (Mt (t.drop k) r i j ↔ Mt t r (i + k) (j + k)) := by
  refine RegD.ind (P := fun r => ∀ i j, (Mt (t.drop k) r i j ↔ Mt t r (i + k) (j + k))) ?_ r
  intro kd s ps ih i j
  have hseq : ∀ (ps : List RegD), (∀ p ∈ ps, ∀ i j, (Mt (t.drop k) p i j ↔ Mt t p (i + k) (j + k))) → ∀ i j, (SeqM (t.drop k) ps i j ↔ SeqM t ps (i + k) (j + k)) := by
    intro ps
    induction ps with
    | nil => intro _ i j; rw [SeqM, SeqM]; omega
    | cons p ps ih2 =>
      intro hh i j
      rw [SeqM, SeqM]
      constructor
      · rintro ⟨m, h1, h2⟩
        exact ⟨m + k, (hh p (by simp) _ _).1 h1, (ih2 (fun q hq => hh q (by simp [hq])) _ _).1 h2⟩
      · rintro ⟨m, h1, h2⟩
        have := Mt_le p _ _ h1
        have e : m - k + k = m := by omega
        refine ⟨m - k, (hh p (by simp) _ _).2 (by rw [e]; exact h1), (ih2 (fun q hq => hh q (by simp [hq])) _ _).2 (by rw [e]; exact h2)⟩
  have hany : ∀ (ps : List RegD), (∀ p ∈ ps, ∀ i j, (Mt (t.drop k) p i j ↔ Mt t p (i + k) (j + k))) → ∀ i j, (AnyM (t.drop k) ps i j ↔ AnyM t ps (i + k) (j + k)) := by
    intro ps
    induction ps with
    | nil => intro _ i j; rw [AnyM, AnyM]
    | cons p ps ih2 =>
      intro hh i j
      rw [AnyM, AnyM, hh p (by simp), ih2 (fun q hq => hh q (by simp [hq]))]
  have hhd : ∀ i j, (HdM (t.drop k) ps i j ↔ HdM t ps (i + k) (j + k)) := by
    intro i j
    cases ps with
    | nil => rw [HdM, HdM]
    | cons p ps => rw [HdM, HdM]; exact ih p (by simp) _ _
  have hst : ∀ i j, (Star (fun a b => HdM (t.drop k) ps a b) i j ↔ Star (fun a b => HdM t ps a b) (i + k) (j + k)) := fun i j =>
    ⟨fun h => h.shift (fun a b => (hhd a b).1), fun h => by
      have := h.unshift (R := fun a b => HdM (t.drop k) ps a b) (k := k) HdM_le (fun a b => (hhd a b).2) (by omega)
      simpa using this⟩
  have hpl : ((∃ m, HdM (t.drop k) ps i m ∧ Star (fun a b => HdM (t.drop k) ps a b) m j) ↔ ∃ m, HdM t ps (i + k) m ∧ Star (fun a b => HdM t ps a b) m (j + k)) := by
    constructor
    · rintro ⟨m, h1, h2⟩
      exact ⟨m + k, (hhd _ _).1 h1, (hst _ _).1 h2⟩
    · rintro ⟨m, h1, h2⟩
      have := HdM_le _ _ h1
      have e : m - k + k = m := by omega
      exact ⟨m - k, (hhd _ _).2 (by rw [e]; exact h1), (hst _ _).2 (by rw [e]; exact h2)⟩
  have h1 : i < (t.drop k).length ↔ i + k < t.length := by rw [List.length_drop]; omega
  have h2 : (t.drop k).getD i 0 = t.getD (i + k) 0 := by
    rw [List.getD_eq_getElem?_getD, List.getD_eq_getElem?_getD, List.getElem?_drop, Nat.add_comm]
  have h3 : i = j ↔ i + k = j + k := by omega
  have h4 : j = i + 1 ↔ j + k = i + k + 1 := by omega
  rw [Mt_kind, Mt_kind, hseq ps ih, hany ps ih, hhd, hst, hpl, h1, h2, h3, h4]

/-! ### Patterns made of patterns -/
def catR (r s : RegD) : RegD := .mk 3 [0, 0, 0, 0] [r, s]
def altR (r s : RegD) : RegD := .mk 4 [0, 0, 0, 0] [r, s]
def oneR (k : Int) (r : RegD) : RegD := .mk k [0, 0, 0, 0] [r]
def empR : RegD := .mk 1 [0, 0, 0, 0] []
theorem chk_size {r : RegD} : r.chk = 0 ↔ r.size ≤ 512 ∧ r.depth ≤ 16 ∧ r.may = true := by
  constructor
  · exact RegD.chk0
  · rintro ⟨h1, h2, h3⟩
    unfold RegD.chk
    rw [if_neg (by omega), if_neg (by omega), h3, if_pos rfl]
theorem cat_size {r s : RegD} : (catR r s).size = 1 + r.size + s.size ∧ (catR r s).depth = max r.depth s.depth + 1 ∧ (catR r s).may = (r.may && s.may) := by
  refine ⟨?_, ?_, ?_⟩
  · simp only [catR, RegD.size, sizeR]; omega
  · simp only [catR, RegD.depth, depthR]; omega
  · simp [catR, RegD.may, mayR, okN]
theorem alt_size {r s : RegD} : (altR r s).size = 1 + r.size + s.size ∧ (altR r s).depth = max r.depth s.depth + 1 ∧ (altR r s).may = (r.may && s.may) := by
  refine ⟨?_, ?_, ?_⟩
  · simp only [altR, RegD.size, sizeR]; omega
  · simp only [altR, RegD.depth, depthR]; omega
  · simp [altR, RegD.may, mayR, okN]
theorem one_size {r : RegD} {k : Int} (hk : k = 5 ∨ k = 6 ∨ k = 7) : (oneR k r).size = 1 + r.size ∧ (oneR k r).depth = r.depth + 1 ∧ (oneR k r).may = r.may := by
  refine ⟨?_, ?_, ?_⟩
  · simp only [oneR, RegD.size, sizeR]; omega
  · simp only [oneR, RegD.depth, depthR]; omega
  · rcases hk with rfl | rfl | rfl <;> simp [oneR, RegD.may, mayR, okN]
theorem emp_size : empR.size = 1 ∧ empR.depth = 1 ∧ empR.may = true := by
  refine ⟨?_, ?_, ?_⟩
  · simp [empR, RegD.size, sizeR]
  · simp [empR, RegD.depth, depthR]
  · simp [empR, RegD.may, mayR, okN]
theorem chk_cat_alt (r s : RegD) : (catR r s).chk = (altR r s).chk := by
  unfold RegD.chk
  rw [cat_size.1, cat_size.2.1, cat_size.2.2, alt_size.1, alt_size.2.1, alt_size.2.2]
theorem chk_cat {r s : RegD} (h : (catR r s).chk = 0) : r.chk = 0 ∧ s.chk = 0 := by
  have := chk_size.1 h
  rw [cat_size.1, cat_size.2.1, cat_size.2.2, Bool.and_eq_true] at this
  obtain ⟨h1, h2, h3, h4⟩ := this
  exact ⟨chk_size.2 ⟨by omega, by omega, h3⟩, chk_size.2 ⟨by omega, by omega, h4⟩⟩
theorem Mt_cat {t : List UInt8} {r s : RegD} {i j : Nat} : Mt t (catR r s) i j ↔ ∃ m, Mt t r i m ∧ Mt t s m j := by
  rw [catR, Mt_kind]
  simp [SeqM]
theorem Mt_alt {t : List UInt8} {r s : RegD} {i j : Nat} : Mt t (altR r s) i j ↔ Mt t r i j ∨ Mt t s i j := by
  rw [altR, Mt_kind]
  simp [AnyM]
theorem Mt_star {t : List UInt8} {r : RegD} {i j : Nat} : Mt t (oneR 5 r) i j ↔ Star (Mt t r) i j := by
  rw [oneR, Mt_kind]
  have : (fun a b => HdM t [r] a b) = Mt t r := by funext a b; rw [HdM]
  rw [this]; simp
theorem Mt_plus {t : List UInt8} {r : RegD} {i j : Nat} : Mt t (oneR 6 r) i j ↔ ∃ m, Mt t r i m ∧ Star (Mt t r) m j := by
  rw [oneR, Mt_kind]
  have : (fun a b => HdM t [r] a b) = Mt t r := by funext a b; rw [HdM]
  rw [this]; simp [HdM]
theorem Mt_maybe {t : List UInt8} {r : RegD} {i j : Nat} : Mt t (oneR 7 r) i j ↔ i = j ∨ Mt t r i j := by
  rw [oneR, Mt_kind]
  simp [HdM]
theorem Mt_emp {t : List UInt8} {i j : Nat} : Mt t empR i j ↔ i = j := by
  rw [empR, Mt_kind]; simp
end Go.Rx
