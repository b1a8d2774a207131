/- Contracts of functions of the given program, over the abstract machine. -/
import Derived.Test.YtabhplelhjcdiaaMgC
namespace Go.Rx
variable {M : Mach}
set_option maxRecDepth 4000
set_option linter.unusedSimpArgs false
set_option linter.unusedVariables false

def keyC (rows : List (List Int)) (i : Nat) : List Int := ((colF rows i).map enc).flatten
theorem colF_range {rows : List (List Int)} {nb i : Nat} (hw : ∀ s, s < rows.length → (rows.getD s []).length = nb) (hr : ∀ s, s < rows.length → ∀ j, j < nb → -1 ≤ (rows.getD s []).getD j 0 ∧ (rows.getD s []).getD j 0 < 65536) (hi : i < nb) : ∀ x ∈ colF rows i, -1 ≤ x ∧ x + 1 < 16777216 := by
  intro x hx
  obtain ⟨j, hj, rfl⟩ := mem_getD hx
  have hj' : j < rows.length := by simpa [colF] using hj
  unfold colF
  rw [getD_map (d' := []) hj']
  have := hr j hj' i hi
  omega
theorem keyC_iff {rows : List (List Int)} {nb i j : Nat} (hw : ∀ s, s < rows.length → (rows.getD s []).length = nb) (hr : ∀ s, s < rows.length → ∀ j, j < nb → -1 ≤ (rows.getD s []).getD j 0 ∧ (rows.getD s []).getD j 0 < 65536) (hi : i < nb) (hj : j < nb) :
    toK (keyC rows i) = toK (keyC rows j) ↔ colF rows i = colF rows j := by
  have rng : ∀ i, i < nb → ∀ x ∈ keyC rows i, 0 ≤ x ∧ x < 256 := fun i hi x hx => by
    obtain ⟨l, hl, hx⟩ := List.mem_flatten.1 hx
    obtain ⟨y, hy, rfl⟩ := List.mem_map.1 hl
    have := colF_range hw hr hi y hy
    exact enc_range this.1 this.2 x hx
  constructor
  · intro h
    exact encs_inj (colF_range hw hr hi) (colF_range hw hr hj) (by simp [colF]) (toK_inj (rng i hi) (rng j hj) h)
  · intro h
    unfold keyC; rw [h]
theorem encs_len : ∀ (l : List Int), ((l.map enc).flatten).length = 3 * l.length
  | [] => rfl
  | x :: l => by simp only [List.map_cons, List.flatten_cons, List.length_append, encs_len l, List.length_cons]; simp [enc]; omega
theorem take_snoc' {α : Type} {l : List α} {i : Nat} {d : α} (h : i < l.length) : l.take (i + 1) = l.take i ++ [l.getD i d] := by
  rw [List.take_add_one, List.getElem?_eq_getElem h, List.getD_eq_getElem?_getD, List.getElem?_eq_getElem h]; rfl
theorem zerosu8 : rl [(256, Value.int .u8 0)] = (List.replicate 256 0).map (.int .u8) := by
  simp [rl, rep_eq]
theorem ints8_get {l : List Int} {i : Nat} (h : i < l.length) : (l.map (Value.int .u8))[i]? = some (.int .u8 (l.getD i 0)) := map_get 0 h

/-- At most block w has changed (and blocks more), block 0 apart. -/
structure ChgP (w : Nat) (h h' : Heap) : Prop where
  next : h.next ≤ h'.next
  at_ : ∀ b, 1 ≤ b → b < h.next → b ≠ w → h'.at b = h.at b
theorem GrowP.cp {h h' : Heap} (g : GrowP h h') (w : Nat) : ChgP w h h' := ⟨g.next, fun b h1 h2 _ => g.at_ b h1 h2⟩
theorem ChgP.chg {w w' : Nat} {h0 h h' : Heap} (g : ChgP w h0 h) (c : Chg w' h h') (hw : w' = 0 ∨ w' = w ∨ h0.next ≤ w') : ChgP w h0 h' :=
  ⟨Nat.le_trans g.next c.next, fun b h1 hb hne => by rw [c.at_ b (by have := g.next; omega) (by omega)]; exact g.at_ b h1 hb hne⟩
theorem ChgP.gp {w : Nat} {h0 h h' : Heap} (g : ChgP w h0 h) (c : GrowP h h') : ChgP w h0 h' :=
  ⟨Nat.le_trans g.next c.next, fun b h1 hb hne => by rw [c.at_ b h1 (by have := g.next; omega)]; exact g.at_ b h1 hb hne⟩
theorem GrowP.cp' {w : Nat} {h0 h h' : Heap} (g : GrowP h0 h) (c : ChgP w h h') (hw : h0.next ≤ w) : GrowP h0 h' :=
  ⟨Nat.le_trans g.next c.next, fun b h1 hb => by rw [c.at_ b h1 (by have := g.next; omega) (by omega)]; exact g.at_ b h1 hb⟩
theorem SlV.cp {h h' : Heap} {w : Nat} {v : Value} {vs : List Value} (hs : SlV h v vs) (c : ChgP w h h') (hne : bno v ≠ w ∨ bno v = 0) : SlV h' v vs :=
  hs.keep c.next fun h0 => c.at_ _ (by omega) hs.1 (by omega)
theorem OwnV.cp {h h' : Heap} {w : Nat} {t : TypeId} {v : Value} {vs : List Value} (hs : OwnV h t v vs) (c : ChgP w h h') (hne : bno v ≠ w ∨ bno v = 0) : OwnV h' t v vs :=
  hs.keep c.next fun h0 => c.at_ _ (by omega) hs.1 (by omega)

theorem classed_ok (hm : M.Mono) (hO73 : M.O 73 = none) (hF73 : M.F 73 = some A73) (hO : M.O 47 = none) (hF : M.F 47 = some A47)
  {h : Heap} {n0 ob : Nat} {vq vr v vn1 vr1 vy vw : Value} {us1 rs : List Value} {pl Rl by_ : List Int} {rows : List (List Int)} {s : Int} {S : Nat → Prop} {d : DfaD} {nb : Nat} {K : KF} (h1n : 1 ≤ h.next) (hn0 : n0 ≤ h.next)
  (ov : OutV h n0 ob vq (.slice none 0 0) vr [] [] pl [] Rl s) (hv : v = .agg ⟨dfaC d.start d.cls vn1 vr1⟩) (hcl : d.cls.length = 256) (hcb : ∀ i : Nat, i < 256 → 0 ≤ d.cls.getD i 0 ∧ d.cls.getD i 0 < 256)
  (hy : SlV h vy (by_.map (.int .u8))) (hyb : bno vy ≠ ob) (hby : by_.length = nb) (hnb : nb ≤ 256) (hbr : ∀ x ∈ by_, 0 ≤ x ∧ x < 256) (hinj : ∀ i j : Nat, i < nb → j < nb → d.cls.getD (by_.getD i 0).toNat 0 = d.cls.getD (by_.getD j 0).toNat 0 → i = j)
  (hw : SlV h vw rs) (hwb : bno vw ≠ ob) (hrl : rs.length = rows.length) (hr4 : rows.length ≤ 4096) (hrow : ∀ i : Nat, i < rows.length → SlV h (rs.getD i undef) ((rows.getD i []).map (.int .i64))) (hrob : ∀ i : Nat, i < rows.length → bno (rs.getD i undef) ≠ ob)
  (hwid : ∀ i, i < rows.length → (rows.getD i []).length = nb) (hrng : ∀ i, i < rows.length → ∀ j, j < nb → -1 ≤ (rows.getD i []).getD j 0 ∧ (rows.getD i []).getD j 0 < 65536)
  (hk : ∀ h' vn us cls' (cc : Nat → Nat), OutV h' n0 ob vq vn vr us [] cls' (rows.map fun row => (firsts rows nb).map fun i => row.getD i 0) Rl s → ChgP ob h h' → (∀ i, i < nb → cc i < (firsts rows nb).length ∧ colF rows ((firsts rows nb).getD (cc i) 0) = colF rows i ∧ ∀ b : Nat, b < 256 → d.cls.getD b 0 = d.cls.getD (by_.getD i 0).toNat 0 → cls'.getD b 0 = cc i) →
    K (.tuple ⟨[]⟩) h') : WF M 47 [pB ob, v, vy, vw] h K := by
  subst hv
  rw [WF_eqT 24 hO hF]
  simp (maxSteps := 2000000) (disch := first | omega | assumption | (simp only [oneC_int, oneC_bool, oneC_str, oneC_ptr, oneC_sl, oneC_map]; done) | (simp only [List.length_cons, List.length_nil, List.length_set, List.length_map, List.length_replicate, List.length_append, List.length_take, List.length_drop, Int.toNat_natCast] <;> omega) | fail) only [Go.Rx.vi, Go.Rx.vb, Go.Rx.vstr, rxc, rxo, Nat.reduceLeDiff, List.getElem?_cons_zero, List.getElem?_cons_succ, List.length_cons, List.length_nil, List.set_cons_zero, List.set_cons_succ, ↓reduceIte, Bool.not_true, Bool.not_false, true_and, and_true, not_true_eq_false, not_false_eq_true, decide_true, decide_false, Nat.reduceEqDiff, Nat.reduceAdd, Nat.reduceMul, Nat.reducePow, Int.reduceToNat, Int.reducePow, Nat.zero_add, Nat.mul_one, Int.toNat_natCast, A47, R47_0, dfaC_len hcl]
  obtain ⟨h1, e1, g1, n1, b1⟩ := boxed h (dfaC d.start d.cls vn1 vr1) 34
  rw [e1]
  simp (maxSteps := 2000000) (disch := first | omega | assumption | (simp only [oneC_int, oneC_bool, oneC_str, oneC_ptr, oneC_sl, oneC_map]; done) | (simp only [List.length_cons, List.length_nil, List.length_set, List.length_map, List.length_replicate, List.length_append, List.length_take, List.length_drop, Int.toNat_natCast] <;> omega) | fail) only [Go.Rx.vi, Go.Rx.vb, Go.Rx.vstr, rxc, rxo, Nat.reduceLeDiff, List.getElem?_cons_zero, List.getElem?_cons_succ, List.length_cons, List.length_nil, List.set_cons_zero, List.set_cons_succ, ↓reduceIte, Bool.not_true, Bool.not_false, true_and, and_true, not_true_eq_false, not_false_eq_true, decide_true, decide_false, Nat.reduceEqDiff, Nat.reduceAdd, Nat.reduceMul, Nat.reducePow, Int.reduceToNat, Int.reducePow, Nat.zero_add, Nat.mul_one, Int.toNat_natCast, R47_1]
  have g2 : GrowP h1 (h1.new (.map [])) := (GrowP.refl h1).new
  have m2 : (h1.new (.map [])).at h1.next = some (.map (([] : List (List UInt8 × Int)).map mpE)) := at_new_same
  have n2 : (h1.new (.map [])).next = h1.next + 1 := rfl
  generalize h1.new (.map []) = h2 at g2 m2 n2 ⊢
  simp (maxSteps := 2000000) (disch := first | omega | assumption | (simp only [oneC_int, oneC_bool, oneC_str, oneC_ptr, oneC_sl, oneC_map]; done) | (simp only [List.length_cons, List.length_nil, List.length_set, List.length_map, List.length_replicate, List.length_append, List.length_take, List.length_drop, Int.toNat_natCast] <;> omega) | fail) only [Go.Rx.vi, Go.Rx.vb, Go.Rx.vstr, rxc, rxo, Nat.reduceLeDiff, List.getElem?_cons_zero, List.getElem?_cons_succ, List.length_cons, List.length_nil, List.set_cons_zero, List.set_cons_succ, ↓reduceIte, Bool.not_true, Bool.not_false, true_and, and_true, not_true_eq_false, not_false_eq_true, decide_true, decide_false, Nat.reduceEqDiff, Nat.reduceAdd, Nat.reduceMul, Nat.reducePow, Int.reduceToNat, Int.reducePow, Nat.zero_add, Nat.mul_one, Int.toNat_natCast, R47_2, zerosu8]
  obtain ⟨h3, e3, g3, n3, b3⟩ := boxed h2 ((List.replicate 256 (0 : Int)).map (.int .u8)) 30
  rw [e3]
  have gp3 : GrowP h h3 := g1.p.trans (g2.trans g3.p)
  have b13 : h3.at h.next = some (.cells (dfaC d.start d.cls vn1 vr1) 34 true) := by rw [g3.2 _ (by omega), g2.at_ _ (by omega) (by omega)]; exact b1
  have m3 : h3.at h1.next = some (.map (([] : List (List UInt8 × Int)).map mpE)) := by rw [g3.2 _ (by omega)]; exact m2
  have ov3 := ov.gp gp3
  have yr := hy.r
  simp only [List.length_map, hby] at yr
  have hobl := ov.lt
  have hob1 := ov.low
  have hyl := hy.1
  simp (maxSteps := 2000000) (disch := first | omega | assumption | (simp only [oneC_int, oneC_bool, oneC_str, oneC_ptr, oneC_sl, oneC_map]; done) | (simp only [List.length_cons, List.length_nil, List.length_set, List.length_map, List.length_replicate, List.length_append, List.length_take, List.length_drop, Int.toNat_natCast] <;> omega) | fail) only [Go.Rx.vi, Go.Rx.vb, Go.Rx.vstr, rxc, rxo, Nat.reduceLeDiff, List.getElem?_cons_zero, List.getElem?_cons_succ, List.length_cons, List.length_nil, List.set_cons_zero, List.set_cons_succ, ↓reduceIte, Bool.not_true, Bool.not_false, true_and, and_true, not_true_eq_false, not_false_eq_true, decide_true, decide_false, Nat.reduceEqDiff, Nat.reduceAdd, Nat.reduceMul, Nat.reducePow, Int.reduceToNat, Int.reducePow, Nat.zero_add, Nat.mul_one, Int.toNat_natCast, R47_3, R47_4, yr]
  refine WC_bloop 24 (fun m e h' => ∃ (i : Nat) (ps : List (List UInt8 × Int)) (ol : List Int) (vf : Value), m = nb - i ∧ i ≤ nb ∧ e.g 0 = pB ob ∧ e.g 2 = vy ∧ e.g 3 = vw ∧ e.g 5 = pB h.next ∧ e.g 8 = .map (some h1.next) ∧ e.g 9 = pB h2.next ∧ e.g 10 = vf ∧ e.g 25 = vy ∧ e.g 26 = .int .i64 nb ∧ e.g 27 = .int .i64 i ∧
      GrowP h h' ∧ h3.next ≤ h'.next ∧ h'.at h.next = some (.cells (dfaC d.start d.cls vn1 vr1) 34 true) ∧ h'.at h1.next = some (.map (ps.map mpE)) ∧ h'.at h2.next = some (.cells (ol.map (.int .u8)) 30 true) ∧ ol.length = 256 ∧ OwnV h' 3 vf (((firsts rows i).map Int.ofNat).map (.int .i64)) ∧ (bno vf = 0 ∨ h3.next ≤ bno vf) ∧
      Num ps ∧ ps.length = (firsts rows i).length ∧ (∀ j k n, ps[j]? = some (k, n) → k = toK (keyC rows ((firsts rows i).getD j 0))) ∧ (∀ i' : Nat, i' < i → ∃ c : Int, lkp ps (toK (keyC rows i')) = some c ∧ ol.getD (d.cls.getD (by_.getD i' 0).toNat 0).toNat 0 = c) ∧ ∀ b : Nat, b < 256 → 0 ≤ ol.getD b 0 ∧ ol.getD b 0 < 256)
    (fun e h' => ∃ (ps : List (List UInt8 × Int)) (ol : List Int) (vf : Value), e.g 0 = pB ob ∧ e.g 3 = vw ∧ e.g 5 = pB h.next ∧ e.g 9 = pB h2.next ∧ e.g 10 = vf ∧
      GrowP h h' ∧ h3.next ≤ h'.next ∧ h'.at h.next = some (.cells (dfaC d.start d.cls vn1 vr1) 34 true) ∧ h'.at h2.next = some (.cells (ol.map (.int .u8)) 30 true) ∧ ol.length = 256 ∧ OwnV h' 3 vf (((firsts rows nb).map Int.ofNat).map (.int .i64)) ∧ (bno vf = 0 ∨ h3.next ≤ bno vf) ∧
      Num ps ∧ ps.length = (firsts rows nb).length ∧ (∀ j k n, ps[j]? = some (k, n) → k = toK (keyC rows ((firsts rows nb).getD j 0))) ∧ (∀ i' : Nat, i' < nb → ∃ c : Int, lkp ps (toK (keyC rows i')) = some c ∧ ol.getD (d.cls.getD (by_.getD i' 0).toNat 0).toNat 0 = c) ∧ ∀ b : Nat, b < 256 → 0 ≤ ol.getD b 0 ∧ ol.getD b 0 < 256) ?_ ?_ ?_
  · refine ⟨_, 0, [], List.replicate 256 0, .slice none 0 0, rfl, by omega, ?_, ?_, ?_, ?_, ?_, ?_, ?_, ?_, ?_, ?_, gp3, Nat.le_refl _, b13, m3, b3, by simp, ⟨by show 0 < _; omega, .inl ⟨rfl, rfl⟩⟩, .inl rfl, Num.nil, rfl, fun j k n hj => by simp at hj, fun i' hi' => by omega, fun b hb => by rw [getD_rep hb]; omega⟩
    all_goals simp (maxSteps := 2000000) (disch := first | omega | assumption | (simp only [oneC_int, oneC_bool, oneC_str, oneC_ptr, oneC_sl, oneC_map]; done) | (simp only [List.length_cons, List.length_nil, List.length_set, List.length_map, List.length_replicate, List.length_append, List.length_take, List.length_drop, Int.toNat_natCast] <;> omega) | fail) only [Go.Rx.vi, Go.Rx.vb, Go.Rx.vstr, rxc, rxo, Nat.reduceLeDiff, List.getElem?_cons_zero, List.getElem?_cons_succ, List.length_cons, List.length_nil, List.set_cons_zero, List.set_cons_succ, ↓reduceIte, Bool.not_true, Bool.not_false, true_and, and_true, not_true_eq_false, not_false_eq_true, decide_true, decide_false, Nat.reduceEqDiff, Nat.reduceAdd, Nat.reduceMul, Nat.reducePow, Int.reduceToNat, Int.reducePow, Nat.zero_add, Nat.mul_one, Int.toNat_natCast]
    rfl
  · rintro m e h' ⟨i, ps, ol, vf, rfl, hi, e0, e2, e3, e5, e8, e9, e10, e25, e26, e27, gp, hnx, hb, hmp, hol, holl, of_, hvf, hnum, hpl, hpk, hlk, hob⟩
    simp (maxSteps := 2000000) (disch := first | omega | assumption | (simp only [oneC_int, oneC_bool, oneC_str, oneC_ptr, oneC_sl, oneC_map]; done) | (simp only [List.length_cons, List.length_nil, List.length_set, List.length_map, List.length_replicate, List.length_append, List.length_take, List.length_drop, Int.toNat_natCast] <;> omega) | fail) only [Go.Rx.vi, Go.Rx.vb, Go.Rx.vstr, rxc, rxo, Nat.reduceLeDiff, List.getElem?_cons_zero, List.getElem?_cons_succ, List.length_cons, List.length_nil, List.set_cons_zero, List.set_cons_succ, ↓reduceIte, Bool.not_true, Bool.not_false, true_and, and_true, not_true_eq_false, not_false_eq_true, decide_true, decide_false, Nat.reduceEqDiff, Nat.reduceAdd, Nat.reduceMul, Nat.reducePow, Int.reduceToNat, Int.reducePow, Nat.zero_add, Nat.mul_one, Int.toNat_natCast, B47_0, R47_5, e0, e2, e3, e5, e8, e9, e10, e25, e26, e27]
    refine WCond_dec (fun hc => ?_) (fun hc => ?_)
    · have yr := (hy.gp gp).r
      have wr := (hw.gp gp).r
      simp only [List.length_map, hby, hrl] at yr wr
      have gn := gp.next
      have hyb' := hbr _ (getD_mem (l := by_) (i := i) (by omega))
      have hcbi := hcb (by_.getD i 0).toNat (by omega)
      simp (maxSteps := 2000000) (disch := first | omega | assumption | (simp only [oneC_int, oneC_bool, oneC_str, oneC_ptr, oneC_sl, oneC_map]; done) | (simp only [List.length_cons, List.length_nil, List.length_set, List.length_map, List.length_replicate, List.length_append, List.length_take, List.length_drop, Int.toNat_natCast] <;> omega) | fail) only [Go.Rx.vi, Go.Rx.vb, Go.Rx.vstr, rxc, rxo, Nat.reduceLeDiff, List.getElem?_cons_zero, List.getElem?_cons_succ, List.length_cons, List.length_nil, List.set_cons_zero, List.set_cons_succ, ↓reduceIte, Bool.not_true, Bool.not_false, true_and, and_true, not_true_eq_false, not_false_eq_true, decide_true, decide_false, Nat.reduceEqDiff, Nat.reduceAdd, Nat.reduceMul, Nat.reducePow, Int.reduceToNat, Int.reducePow, Nat.zero_add, Nat.mul_one, Int.toNat_natCast, R47_6, e0, e2, e3, e5, e8, e9, e10, e25, e26, e27, yr, ints8_get, R47_7, R47_8, wr]
      refine WC_bloop 24 (fun m e hh => ∃ (j : Nat) (kv : Value), m = rows.length - j ∧ j ≤ rows.length ∧ e.g 0 = pB ob ∧ e.g 2 = vy ∧ e.g 3 = vw ∧ e.g 5 = pB h.next ∧ e.g 8 = .map (some h1.next) ∧ e.g 9 = pB h2.next ∧ e.g 10 = vf ∧ e.g 11 = .int .i64 i ∧ e.g 12 = .int .u8 (by_.getD i 0) ∧ e.g 13 = kv ∧ e.g 25 = vy ∧ e.g 26 = .int .i64 nb ∧ e.g 27 = .int .i64 i ∧
          e.g 32 = vw ∧ e.g 33 = .int .i64 rows.length ∧ e.g 34 = .int .i64 j ∧ OwnV hh 5 kv (((((rows.take j).map fun r => r.getD i 0).map enc).flatten).map (.int .u8)) ∧ (bno kv = 0 ∨ h'.next ≤ bno kv) ∧ GrowP h' hh)
        (fun e hh => ∃ (kv : Value), e.g 0 = pB ob ∧ e.g 2 = vy ∧ e.g 3 = vw ∧ e.g 5 = pB h.next ∧ e.g 8 = .map (some h1.next) ∧ e.g 9 = pB h2.next ∧ e.g 10 = vf ∧ e.g 11 = .int .i64 i ∧ e.g 12 = .int .u8 (by_.getD i 0) ∧ e.g 13 = kv ∧ e.g 25 = vy ∧ e.g 26 = .int .i64 nb ∧ e.g 27 = .int .i64 i ∧
          OwnV hh 5 kv ((keyC rows i).map (.int .u8)) ∧ GrowP h' hh) ?_ ?_ ?_
      · refine ⟨_, 0, .slice none 0 0, rfl, by omega, ?_, ?_, ?_, ?_, ?_, ?_, ?_, ?_, ?_, ?_, ?_, ?_, ?_, ?_, ?_, ?_, ⟨by show 0 < _; omega, .inl ⟨rfl, rfl⟩⟩, .inl rfl, GrowP.refl _⟩
        all_goals simp (maxSteps := 2000000) (disch := first | omega | assumption | (simp only [oneC_int, oneC_bool, oneC_str, oneC_ptr, oneC_sl, oneC_map]; done) | (simp only [List.length_cons, List.length_nil, List.length_set, List.length_map, List.length_replicate, List.length_append, List.length_take, List.length_drop, Int.toNat_natCast] <;> omega) | fail) only [Go.Rx.vi, Go.Rx.vb, Go.Rx.vstr, rxc, rxo, Nat.reduceLeDiff, List.getElem?_cons_zero, List.getElem?_cons_succ, List.length_cons, List.length_nil, List.set_cons_zero, List.set_cons_succ, ↓reduceIte, Bool.not_true, Bool.not_false, true_and, and_true, not_true_eq_false, not_false_eq_true, decide_true, decide_false, Nat.reduceEqDiff, Nat.reduceAdd, Nat.reduceMul, Nat.reducePow, Int.reduceToNat, Int.reducePow, Nat.zero_add, Nat.mul_one, Int.toNat_natCast, e0, e2, e3, e5, e8, e9, e10, e25, e26, e27]
        rfl
      · rintro m e hh ⟨j, kv, rfl, hj, e0, e2, e3, e5, e8, e9, e10, e11, e12, e13, e25, e26, e27, e32, e33, e34, okv, hkv, gh⟩
        simp (maxSteps := 2000000) (disch := first | omega | assumption | (simp only [oneC_int, oneC_bool, oneC_str, oneC_ptr, oneC_sl, oneC_map]; done) | (simp only [List.length_cons, List.length_nil, List.length_set, List.length_map, List.length_replicate, List.length_append, List.length_take, List.length_drop, Int.toNat_natCast] <;> omega) | fail) only [Go.Rx.vi, Go.Rx.vb, Go.Rx.vstr, rxc, rxo, Nat.reduceLeDiff, List.getElem?_cons_zero, List.getElem?_cons_succ, List.length_cons, List.length_nil, List.set_cons_zero, List.set_cons_succ, ↓reduceIte, Bool.not_true, Bool.not_false, true_and, and_true, not_true_eq_false, not_false_eq_true, decide_true, decide_false, Nat.reduceEqDiff, Nat.reduceAdd, Nat.reduceMul, Nat.reducePow, Int.reduceToNat, Int.reducePow, Nat.zero_add, Nat.mul_one, Int.toNat_natCast, B47_1, R47_9, e0, e2, e3, e5, e8, e9, e10, e11, e12, e13, e25, e26, e27, e32, e33, e34]
        refine WCond_dec (fun hc2 => ?_) (fun hc2 => ?_)
        · have gph := gp.trans gh
          have wr := (hw.gp gph).r
          have rr := ((hrow j (by omega)).gp gph).r
          have hwj := hwid j (by omega)
          simp only [List.length_map, hrl, hwj] at wr rr
          have hrj := hrng j (by omega) i (by omega)
          have hlen := encs_len ((rows.take j).map fun r => r.getD i 0)
          rw [List.length_map, List.length_take] at hlen
          have nh := gh.next
          simp (maxSteps := 2000000) (disch := first | omega | assumption | (simp only [oneC_int, oneC_bool, oneC_str, oneC_ptr, oneC_sl, oneC_map]; done) | (simp only [List.length_cons, List.length_nil, List.length_set, List.length_map, List.length_replicate, List.length_append, List.length_take, List.length_drop, Int.toNat_natCast] <;> omega) | fail) only [Go.Rx.vi, Go.Rx.vb, Go.Rx.vstr, rxc, rxo, Nat.reduceLeDiff, List.getElem?_cons_zero, List.getElem?_cons_succ, List.length_cons, List.length_nil, List.set_cons_zero, List.set_cons_succ, ↓reduceIte, Bool.not_true, Bool.not_false, true_and, and_true, not_true_eq_false, not_false_eq_true, decide_true, decide_false, Nat.reduceEqDiff, Nat.reduceAdd, Nat.reduceMul, Nat.reducePow, Int.reduceToNat, Int.reducePow, Nat.zero_add, Nat.mul_one, Int.toNat_natCast, R47_10, e0, e2, e3, e5, e8, e9, e10, e11, e12, e13, e25, e26, e27, e32, e33, e34, wr, vals_get (l := rs), R47_11, rr, ints_get]
          refine put_ok hO73 hF73 (by omega) okv (by rw [hlen]; omega) (by omega) (by omega) fun kv' h6 ok6 c6 f6 => ?_
          simp (maxSteps := 2000000) (disch := first | omega | assumption | (simp only [oneC_int, oneC_bool, oneC_str, oneC_ptr, oneC_sl, oneC_map]; done) | (simp only [List.length_cons, List.length_nil, List.length_set, List.length_map, List.length_replicate, List.length_append, List.length_take, List.length_drop, Int.toNat_natCast] <;> omega) | fail) only [Go.Rx.vi, Go.Rx.vb, Go.Rx.vstr, rxc, rxo, Nat.reduceLeDiff, List.getElem?_cons_zero, List.getElem?_cons_succ, List.length_cons, List.length_nil, List.set_cons_zero, List.set_cons_succ, ↓reduceIte, Bool.not_true, Bool.not_false, true_and, and_true, not_true_eq_false, not_false_eq_true, decide_true, decide_false, Nat.reduceEqDiff, Nat.reduceAdd, Nat.reduceMul, Nat.reducePow, Int.reduceToNat, Int.reducePow, Nat.zero_add, Nat.mul_one, Int.toNat_natCast, e0, e2, e3, e5, e8, e9, e10, e11, e12, e13, e25, e26, e27, e32, e33, e34, R47_12]
          refine ⟨_, by omega, j + 1, kv', rfl, by omega, rfl, by simp, ?_, by omega, gh.chg c6 hkv⟩
          rw [take_snoc' (d := []) (by omega)]
          simpa using ok6
        · rw [List.take_of_length_le (by omega)] at okv
          simp (maxSteps := 2000000) (disch := first | omega | assumption | (simp only [oneC_int, oneC_bool, oneC_str, oneC_ptr, oneC_sl, oneC_map]; done) | (simp only [List.length_cons, List.length_nil, List.length_set, List.length_map, List.length_replicate, List.length_append, List.length_take, List.length_drop, Int.toNat_natCast] <;> omega) | fail) only [Go.Rx.vi, Go.Rx.vb, Go.Rx.vstr, rxc, rxo, Nat.reduceLeDiff, List.getElem?_cons_zero, List.getElem?_cons_succ, List.length_cons, List.length_nil, List.set_cons_zero, List.set_cons_succ, ↓reduceIte, Bool.not_true, Bool.not_false, true_and, and_true, not_true_eq_false, not_false_eq_true, decide_true, decide_false, Nat.reduceEqDiff, Nat.reduceAdd, Nat.reduceMul, Nat.reducePow, Int.reduceToNat, Int.reducePow, Nat.zero_add, Nat.mul_one, Int.toNat_natCast, e0, e2, e3, e5, e8, e9, e10, e11, e12, e13, e25, e26, e27]
          exact ⟨kv, rfl, okv, gh⟩
      · rintro e hh ⟨kv, e0, e2, e3, e5, e8, e9, e10, e11, e12, e13, e25, e26, e27, okv, gh⟩
        have hmh : hh.at h1.next = some (.map (ps.map mpE)) := by rw [gh.at_ _ (by omega) (by omega)]; exact hmp
        have hbh : hh.at h.next = some (.cells (dfaC d.start d.cls vn1 vr1) 34 true) := by rw [gh.at_ _ (by omega) (by omega)]; exact hb
        have holh : hh.at h2.next = some (.cells (ol.map (.int .u8)) 30 true) := by rw [gh.at_ _ (by omega) (by omega)]; exact hol
        have ofh := of_.gp gh
        have fr := ofh.sl.r
        have hfl := firsts_le rows i
        simp only [List.length_map] at fr
        have gph := gp.trans gh
        have nh := gh.next
        have hol' : (ol.map (Value.int .u8)).length = 256 := by simp [holl]
        have hsucc := firsts_succ rows i
        cases hlq : lkp ps (toK (keyC rows i)) with
        | some c =>
          obtain ⟨c0, c1, c2⟩ := hnum.get hlq
          have hck := hpk _ _ _ c2
          have hmem : (firsts rows i).getD c.toNat 0 ∈ firsts rows i := by
            rw [List.getD_eq_getElem?_getD, List.getElem?_eq_getElem (by omega)]; exact List.getElem_mem _
          obtain ⟨f1, f2⟩ := firsts_lt hmem
          have hnf : isFst rows i = false := by
            cases hx : isFst rows i with
            | false => rfl
            | true =>
              exact absurd ((keyC_iff hwid hrng (by omega) (by omega)).1 hck.symm) (isFst_iff.1 hx _ f1)
          rw [hnf] at hsucc
          simp only [Bool.false_eq_true, if_false] at hsucc
          simp (maxSteps := 2000000) (disch := first | omega | assumption | (simp only [oneC_int, oneC_bool, oneC_str, oneC_ptr, oneC_sl, oneC_map]; done) | (simp only [List.length_cons, List.length_nil, List.length_set, List.length_map, List.length_replicate, List.length_append, List.length_take, List.length_drop, Int.toNat_natCast] <;> omega) | fail) only [Go.Rx.vi, Go.Rx.vb, Go.Rx.vstr, rxc, rxo, Nat.reduceLeDiff, List.getElem?_cons_zero, List.getElem?_cons_succ, List.length_cons, List.length_nil, List.set_cons_zero, List.set_cons_succ, ↓reduceIte, Bool.not_true, Bool.not_false, true_and, and_true, not_true_eq_false, not_false_eq_true, decide_true, decide_false, Nat.reduceEqDiff, Nat.reduceAdd, Nat.reduceMul, Nat.reducePow, Int.reduceToNat, Int.reducePow, Nat.zero_add, Nat.mul_one, Int.toNat_natCast, R47_13, e0, e2, e3, e5, e8, e9, e10, e11, e12, e13, e25, e26, e27, iB2s_sl okv.sl, look_some hmh hlq, iExt_tuple, R47_14, unV_not, R47_18, hbh, dfaC_cls hcl, holh, hol', iConv_int, ints_set, R47_19]
          have cs : Chg h2.next hh (hh.set h2.next (some (.cells ((ol.set (d.cls.getD (by_.getD i 0).toNat 0).toNat c).map (.int .u8)) 30 true))) := Chg.set
          refine ⟨_, by omega, i + 1, ps, ol.set (d.cls.getD (by_.getD i 0).toNat 0).toNat c, vf, rfl, by omega, rfl, by simp, gph.chg cs (by omega), by omega, hmh, rfl, by simp [holl], ?_, hvf, hnum, by rw [hsucc]; exact hpl, by rw [hsucc]; exact hpk, ?_, ?_⟩
          · rw [hsucc]; exact ofh.chg cs (by omega)
          · intro i' hi'
            rw [getD_set (by omega)]
            by_cases hii : i = i'
            · subst hii; rw [if_pos rfl]; exact ⟨c, hlq, rfl⟩
            · have hcb' := hcb (by_.getD i' 0).toNat (by have := hbr _ (getD_mem (l := by_) (i := i') (by omega)); omega)
              rw [if_neg (fun he => hii (hinj i i' (by omega) (by omega) (by omega)))]
              exact hlk i' (by omega)
          · intro b hb'
            rw [getD_set (by omega)]
            split
            · omega
            · exact hob b hb'
        | none =>
          have hf : isFst rows i = true := by
            rw [isFst_iff]
            intro a ha he
            obtain ⟨c, hc1, _⟩ := hlk a ha
            rw [(keyC_iff hwid hrng (by omega) (by omega)).2 he, hlq] at hc1
            cases hc1
          rw [hf] at hsucc
          simp only [if_true] at hsucc
          simp (maxSteps := 2000000) (disch := first | omega | assumption | (simp only [oneC_int, oneC_bool, oneC_str, oneC_ptr, oneC_sl, oneC_map]; done) | (simp only [List.length_cons, List.length_nil, List.length_set, List.length_map, List.length_replicate, List.length_append, List.length_take, List.length_drop, Int.toNat_natCast] <;> omega) | fail) only [Go.Rx.vi, Go.Rx.vb, Go.Rx.vstr, rxc, rxo, Nat.reduceLeDiff, List.getElem?_cons_zero, List.getElem?_cons_succ, List.length_cons, List.length_nil, List.set_cons_zero, List.set_cons_succ, ↓reduceIte, Bool.not_true, Bool.not_false, true_and, and_true, not_true_eq_false, not_false_eq_true, decide_true, decide_false, Nat.reduceEqDiff, Nat.reduceAdd, Nat.reduceMul, Nat.reducePow, Int.reduceToNat, Int.reducePow, Nat.zero_add, Nat.mul_one, Int.toNat_natCast, R47_13, e0, e2, e3, e5, e8, e9, e10, e11, e12, e13, e25, e26, e27, iB2s_sl okv.sl, look_none hmh hlq, iExt_tuple, R47_14, unV_not, R47_15, fr, R47_16, mset_none hmh hlq]
          have cs : Chg h1.next hh (hh.set h1.next (some (.map ((ps ++ [(toK (keyC rows i), ((firsts rows i).length : Int))]).map mpE)))) := Chg.set
          have hms : (hh.set h1.next (some (.map ((ps ++ [(toK (keyC rows i), ((firsts rows i).length : Int))]).map mpE)))).at h1.next = some (.map ((ps ++ [(toK (keyC rows i), ((firsts rows i).length : Int))]).map mpE)) := at_set_same
          have hbs : (hh.set h1.next (some (.map ((ps ++ [(toK (keyC rows i), ((firsts rows i).length : Int))]).map mpE)))).at h.next = some (.cells (dfaC d.start d.cls vn1 vr1) 34 true) := by rw [at_set_ne (by omega)]; exact hbh
          have hos : (hh.set h1.next (some (.map ((ps ++ [(toK (keyC rows i), ((firsts rows i).length : Int))]).map mpE)))).at h2.next = some (.cells (ol.map (.int .u8)) 30 true) := by rw [at_set_ne (by omega)]; exact holh
          have ns : (hh.set h1.next (some (.map ((ps ++ [(toK (keyC rows i), ((firsts rows i).length : Int))]).map mpE)))).next = hh.next := rfl
          generalize hh.set h1.next (some (.map ((ps ++ [(toK (keyC rows i), ((firsts rows i).length : Int))]).map mpE))) = h6 at cs hms hbs hos ns ⊢
          have of6 := ofh.chg cs (by omega)
          simp (maxSteps := 2000000) (disch := first | omega | assumption | (simp only [oneC_int, oneC_bool, oneC_str, oneC_ptr, oneC_sl, oneC_map]; done) | (simp only [List.length_cons, List.length_nil, List.length_set, List.length_map, List.length_replicate, List.length_append, List.length_take, List.length_drop, Int.toNat_natCast] <;> omega) | fail) only [Go.Rx.vi, Go.Rx.vb, Go.Rx.vstr, rxc, rxo, Nat.reduceLeDiff, List.getElem?_cons_zero, List.getElem?_cons_succ, List.length_cons, List.length_nil, List.set_cons_zero, List.set_cons_succ, ↓reduceIte, Bool.not_true, Bool.not_false, true_and, and_true, not_true_eq_false, not_false_eq_true, decide_true, decide_false, Nat.reduceEqDiff, Nat.reduceAdd, Nat.reduceMul, Nat.reducePow, Int.reduceToNat, Int.reducePow, Nat.zero_add, Nat.mul_one, Int.toNat_natCast, R47_17, e0, e2, e3, e5, e8, e9, e10, e11, e12, e13, e25, e26, e27]
          refine WI_app1c (by omega) of6 rfl (by rw [List.length_map, List.length_map]; omega) fun vf' h7 o7 c7 f7 => ?_
          have hb7 : h7.at h.next = some (.cells (dfaC d.start d.cls vn1 vr1) 34 true) := by rw [c7.at_ _ (by omega) (by omega)]; exact hbs
          have ho7 : h7.at h2.next = some (.cells (ol.map (.int .u8)) 30 true) := by rw [c7.at_ _ (by omega) (by omega)]; exact hos
          have hm7 : h7.at h1.next = some (.map ((ps ++ [(toK (keyC rows i), ((firsts rows i).length : Int))]).map mpE)) := by rw [c7.at_ _ (by omega) (by omega)]; exact hms
          have n7 := c7.next
          simp (maxSteps := 2000000) (disch := first | omega | assumption | (simp only [oneC_int, oneC_bool, oneC_str, oneC_ptr, oneC_sl, oneC_map]; done) | (simp only [List.length_cons, List.length_nil, List.length_set, List.length_map, List.length_replicate, List.length_append, List.length_take, List.length_drop, Int.toNat_natCast] <;> omega) | fail) only [Go.Rx.vi, Go.Rx.vb, Go.Rx.vstr, rxc, rxo, Nat.reduceLeDiff, List.getElem?_cons_zero, List.getElem?_cons_succ, List.length_cons, List.length_nil, List.set_cons_zero, List.set_cons_succ, ↓reduceIte, Bool.not_true, Bool.not_false, true_and, and_true, not_true_eq_false, not_false_eq_true, decide_true, decide_false, Nat.reduceEqDiff, Nat.reduceAdd, Nat.reduceMul, Nat.reducePow, Int.reduceToNat, Int.reducePow, Nat.zero_add, Nat.mul_one, Int.toNat_natCast, e0, e2, e3, e5, e8, e9, e10, e11, e12, e13, e25, e26, e27, R47_18, hb7, dfaC_cls hcl, ho7, hol', iConv_int, ints_set, R47_19, hm7]
          have cs2 : Chg h2.next h7 (h7.set h2.next (some (.cells ((ol.set (d.cls.getD (by_.getD i 0).toNat 0).toNat ((firsts rows i).length : Int)).map (.int .u8)) 30 true))) := Chg.set
          have hadd := hnum.add hlq
          rw [hpl] at hadd
          refine ⟨_, by omega, i + 1, ps ++ [(toK (keyC rows i), ((firsts rows i).length : Int))], ol.set (d.cls.getD (by_.getD i 0).toNat 0).toNat ((firsts rows i).length : Int), vf', rfl, by omega, rfl, by simp, ((gph.chg cs (by omega)).chg c7 (by omega)).chg cs2 (by omega), by omega, rfl, rfl, by simp [holl], ?_, by omega, hadd, by rw [hsucc]; simp [hpl], ?_, ?_, ?_⟩
          · rw [hsucc, List.map_append, List.map_append]
            exact OwnV.chg o7 cs2 (by omega)
          · intro j k n hj
            rw [hsucc, getD_app]
            rw [List.getElem?_append] at hj
            split at hj
            · rename_i hjl
              rw [if_pos (by omega)]
              exact hpk j k n hj
            · rename_i hjl
              have hjl2 := (List.getElem?_eq_some_iff.1 hj).1
              have hj0 : j - ps.length = 0 := by simp at hjl2; omega
              rw [hj0] at hj
              simp at hj
              rw [if_neg (by omega), if_pos (by omega)]
              exact hj.1.symm
          · intro i' hi'
            by_cases hii : i = i'
            · subst hii
              exact ⟨((firsts rows i).length : Int), by rw [lkp_app, hlq]; simp, by rw [getD_set (by omega), if_pos rfl]⟩
            · have hcb' := hcb (by_.getD i' 0).toNat (by have := hbr _ (getD_mem (l := by_) (i := i') (by omega)); omega)
              obtain ⟨c, q1, q2⟩ := hlk i' (by omega)
              exact ⟨c, by rw [lkp_app, q1], by rw [getD_set (by omega), if_neg (fun he => hii (hinj i i' (by omega) (by omega) (by omega)))]; exact q2⟩
          · intro b hb'
            rw [getD_set (by omega)]
            split
            · omega
            · exact hob b hb'
    · have hin : i = nb := by omega
      rw [hin] at of_ hpl hpk hlk
      simp (maxSteps := 2000000) (disch := first | omega | assumption | (simp only [oneC_int, oneC_bool, oneC_str, oneC_ptr, oneC_sl, oneC_map]; done) | (simp only [List.length_cons, List.length_nil, List.length_set, List.length_map, List.length_replicate, List.length_append, List.length_take, List.length_drop, Int.toNat_natCast] <;> omega) | fail) only [Go.Rx.vi, Go.Rx.vb, Go.Rx.vstr, rxc, rxo, Nat.reduceLeDiff, List.getElem?_cons_zero, List.getElem?_cons_succ, List.length_cons, List.length_nil, List.set_cons_zero, List.set_cons_succ, ↓reduceIte, Bool.not_true, Bool.not_false, true_and, and_true, not_true_eq_false, not_false_eq_true, decide_true, decide_false, Nat.reduceEqDiff, Nat.reduceAdd, Nat.reduceMul, Nat.reducePow, Int.reduceToNat, Int.reducePow, Nat.zero_add, Nat.mul_one, Int.toNat_natCast, e0, e3, e5, e9, e10]
      exact ⟨ps, ol, vf, rfl, gp, hnx, hb, hol, holl, of_, hvf, hnum, hpl, hpk, hlk, hob⟩
  · rintro e h' ⟨ps, ol, vf, e0, e3, e5, e9, e10, gp, hnx, hb, hol, holl, of_, hvf, hnum, hpl, hpk, hlk, hob⟩
    have gn := gp.next
    have ovh := ov.gp gp
    have hfl := firsts_le rows nb
    simp (maxSteps := 2000000) (disch := first | omega | assumption | (simp only [oneC_int, oneC_bool, oneC_str, oneC_ptr, oneC_sl, oneC_map]; done) | (simp only [List.length_cons, List.length_nil, List.length_set, List.length_map, List.length_replicate, List.length_append, List.length_take, List.length_drop, Int.toNat_natCast] <;> omega) | fail) only [Go.Rx.vi, Go.Rx.vb, Go.Rx.vstr, rxc, rxo, Nat.reduceLeDiff, List.getElem?_cons_zero, List.getElem?_cons_succ, List.length_cons, List.length_nil, List.set_cons_zero, List.set_cons_succ, ↓reduceIte, Bool.not_true, Bool.not_false, true_and, and_true, not_true_eq_false, not_false_eq_true, decide_true, decide_false, Nat.reduceEqDiff, Nat.reduceAdd, Nat.reduceMul, Nat.reducePow, Int.reduceToNat, Int.reducePow, Nat.zero_add, Nat.mul_one, Int.toNat_natCast, R47_20, e0, e3, e5, e9, e10]
    refine WC_bloop 24 (fun m e h' => ∃ (b : Nat) (pl : List Int), m = 256 - b ∧ b ≤ 256 ∧ e.g 0 = pB ob ∧ e.g 3 = vw ∧ e.g 5 = pB h.next ∧ e.g 9 = pB h2.next ∧ e.g 10 = vf ∧ e.g 72 = .int .i64 b ∧
        OutV h' n0 ob vq (.slice none 0 0) vr [] [] pl [] Rl s ∧ ChgP ob h h' ∧ h3.next ≤ h'.next ∧ h'.at h.next = some (.cells (dfaC d.start d.cls vn1 vr1) 34 true) ∧ h'.at h2.next = some (.cells (ol.map (.int .u8)) 30 true) ∧ OwnV h' 3 vf (((firsts rows nb).map Int.ofNat).map (.int .i64)) ∧
        ∀ b' : Nat, b' < b → pl.getD b' 0 = ol.getD (d.cls.getD b' 0).toNat 0)
      (fun e h' => ∃ (pl : List Int), e.g 0 = pB ob ∧ e.g 3 = vw ∧ e.g 10 = vf ∧
        OutV h' n0 ob vq (.slice none 0 0) vr [] [] pl [] Rl s ∧ ChgP ob h h' ∧ h3.next ≤ h'.next ∧ OwnV h' 3 vf (((firsts rows nb).map Int.ofNat).map (.int .i64)) ∧
        ∀ b' : Nat, b' < 256 → pl.getD b' 0 = ol.getD (d.cls.getD b' 0).toNat 0) ?_ ?_ ?_
    · refine ⟨_, 0, pl, rfl, by omega, ?_, ?_, ?_, ?_, ?_, ?_, ovh, gp.cp ob, hnx, hb, hol, of_, fun b' hb' => by omega⟩
      all_goals simp (maxSteps := 2000000) (disch := first | omega | assumption | (simp only [oneC_int, oneC_bool, oneC_str, oneC_ptr, oneC_sl, oneC_map]; done) | (simp only [List.length_cons, List.length_nil, List.length_set, List.length_map, List.length_replicate, List.length_append, List.length_take, List.length_drop, Int.toNat_natCast] <;> omega) | fail) only [Go.Rx.vi, Go.Rx.vb, Go.Rx.vstr, rxc, rxo, Nat.reduceLeDiff, List.getElem?_cons_zero, List.getElem?_cons_succ, List.length_cons, List.length_nil, List.set_cons_zero, List.set_cons_succ, ↓reduceIte, Bool.not_true, Bool.not_false, true_and, and_true, not_true_eq_false, not_false_eq_true, decide_true, decide_false, Nat.reduceEqDiff, Nat.reduceAdd, Nat.reduceMul, Nat.reducePow, Int.reduceToNat, Int.reducePow, Nat.zero_add, Nat.mul_one, Int.toNat_natCast, e0, e3, e5, e9, e10]
      rfl
    · rintro m e h' ⟨b, pl, rfl, hbb, e0, e3, e5, e9, e10, e72, ov, cp, hnx, hb, hol, of_, hpls⟩
      simp (maxSteps := 2000000) (disch := first | omega | assumption | (simp only [oneC_int, oneC_bool, oneC_str, oneC_ptr, oneC_sl, oneC_map]; done) | (simp only [List.length_cons, List.length_nil, List.length_set, List.length_map, List.length_replicate, List.length_append, List.length_take, List.length_drop, Int.toNat_natCast] <;> omega) | fail) only [Go.Rx.vi, Go.Rx.vb, Go.Rx.vstr, rxc, rxo, Nat.reduceLeDiff, List.getElem?_cons_zero, List.getElem?_cons_succ, List.length_cons, List.length_nil, List.set_cons_zero, List.set_cons_succ, ↓reduceIte, Bool.not_true, Bool.not_false, true_and, and_true, not_true_eq_false, not_false_eq_true, decide_true, decide_false, Nat.reduceEqDiff, Nat.reduceAdd, Nat.reduceMul, Nat.reducePow, Int.reduceToNat, Int.reducePow, Nat.zero_add, Nat.mul_one, Int.toNat_natCast, B47_2, R47_21, e0, e3, e5, e9, e10, e72]
      refine WCond_dec (fun hc => ?_) (fun hc => ?_)
      · have hcbb := hcb b (by omega)
        have hol' : (ol.map (Value.int .u8)).length = 256 := by simp [holl]
        have hp := ov.pl
        have htl := dfaC_len (s := s) (vn := .slice none 0 0) (vr := vr) hp
        simp (maxSteps := 2000000) (disch := first | omega | assumption | (simp only [oneC_int, oneC_bool, oneC_str, oneC_ptr, oneC_sl, oneC_map]; done) | (simp only [List.length_cons, List.length_nil, List.length_set, List.length_map, List.length_replicate, List.length_append, List.length_take, List.length_drop, Int.toNat_natCast] <;> omega) | fail) only [Go.Rx.vi, Go.Rx.vb, Go.Rx.vstr, rxc, rxo, Nat.reduceLeDiff, List.getElem?_cons_zero, List.getElem?_cons_succ, List.length_cons, List.length_nil, List.set_cons_zero, List.set_cons_succ, ↓reduceIte, Bool.not_true, Bool.not_false, true_and, and_true, not_true_eq_false, not_false_eq_true, decide_true, decide_false, Nat.reduceEqDiff, Nat.reduceAdd, Nat.reduceMul, Nat.reducePow, Int.reduceToNat, Int.reducePow, Nat.zero_add, Nat.mul_one, Int.toNat_natCast, R47_22, e0, e3, e5, e9, e10, e72]
        refine WC_regd0 hm ?_
        simp (maxSteps := 2000000) (disch := first | omega | assumption | (simp only [oneC_int, oneC_bool, oneC_str, oneC_ptr, oneC_sl, oneC_map]; done) | (simp only [List.length_cons, List.length_nil, List.length_set, List.length_map, List.length_replicate, List.length_append, List.length_take, List.length_drop, Int.toNat_natCast] <;> omega) | fail) only [Go.Rx.vi, Go.Rx.vb, Go.Rx.vstr, rxc, rxo, Nat.reduceLeDiff, List.getElem?_cons_zero, List.getElem?_cons_succ, List.length_cons, List.length_nil, List.set_cons_zero, List.set_cons_succ, ↓reduceIte, Bool.not_true, Bool.not_false, true_and, and_true, not_true_eq_false, not_false_eq_true, decide_true, decide_false, Nat.reduceEqDiff, Nat.reduceAdd, Nat.reduceMul, Nat.reducePow, Int.reduceToNat, Int.reducePow, Nat.zero_add, Nat.mul_one, Int.toNat_natCast, R47_23, e0, e3, e5, e9, e10, e72, hb, dfaC_cls hcl, hol, ints8_get, ov.tab, dfaC_setp hp, R47_24]
        have cs : Chg ob h' (h'.set ob (some (.cells (dfaC s (pl.set b (ol.getD (d.cls.getD b 0).toNat 0)) (.slice none 0 0) vr) 34 true))) := Chg.set
        have hfob : bno vf ≠ ob ∨ bno vf = 0 := by omega
        refine ⟨_, by omega, b + 1, _, rfl, by omega, by simp, ov.tabbed (by simp [hp]) cs at_set_same, cp.chg cs (by omega), by omega, of_.chg cs hfob, fun b' hb' => ?_⟩
        rw [getD_set (by omega)]
        by_cases hbb' : b = b'
        · subst hbb'; rw [if_pos rfl]
        · rw [if_neg hbb']; exact hpls b' (by omega)
      · simp (maxSteps := 2000000) (disch := first | omega | assumption | (simp only [oneC_int, oneC_bool, oneC_str, oneC_ptr, oneC_sl, oneC_map]; done) | (simp only [List.length_cons, List.length_nil, List.length_set, List.length_map, List.length_replicate, List.length_append, List.length_take, List.length_drop, Int.toNat_natCast] <;> omega) | fail) only [Go.Rx.vi, Go.Rx.vb, Go.Rx.vstr, rxc, rxo, Nat.reduceLeDiff, List.getElem?_cons_zero, List.getElem?_cons_succ, List.length_cons, List.length_nil, List.set_cons_zero, List.set_cons_succ, ↓reduceIte, Bool.not_true, Bool.not_false, true_and, and_true, not_true_eq_false, not_false_eq_true, decide_true, decide_false, Nat.reduceEqDiff, Nat.reduceAdd, Nat.reduceMul, Nat.reducePow, Int.reduceToNat, Int.reducePow, Nat.zero_add, Nat.mul_one, Int.toNat_natCast, e0, e3, e10]
        exact ⟨pl, ov, cp, hnx, of_, fun b' hb' => hpls b' (by omega)⟩
    · rintro e h' ⟨pl, e0, e3, e10, ov, cp, hnx, of_, hpls⟩
      have wr := (hw.cp cp (.inl hwb)).r
      simp only [hrl] at wr
      obtain ⟨nC, hnC⟩ : ∃ n, n = h'.next := ⟨_, rfl⟩
      have hvfC := of_.1
      have cpn := cp.next
      simp (maxSteps := 2000000) (disch := first | omega | assumption | (simp only [oneC_int, oneC_bool, oneC_str, oneC_ptr, oneC_sl, oneC_map]; done) | (simp only [List.length_cons, List.length_nil, List.length_set, List.length_map, List.length_replicate, List.length_append, List.length_take, List.length_drop, Int.toNat_natCast] <;> omega) | fail) only [Go.Rx.vi, Go.Rx.vb, Go.Rx.vstr, rxc, rxo, Nat.reduceLeDiff, List.getElem?_cons_zero, List.getElem?_cons_succ, List.length_cons, List.length_nil, List.set_cons_zero, List.set_cons_succ, ↓reduceIte, Bool.not_true, Bool.not_false, true_and, and_true, not_true_eq_false, not_false_eq_true, decide_true, decide_false, Nat.reduceEqDiff, Nat.reduceAdd, Nat.reduceMul, Nat.reducePow, Int.reduceToNat, Int.reducePow, Nat.zero_add, Nat.mul_one, Int.toNat_natCast, R47_25, e0, e3, e10, wr]
      refine WC_bloop 24 (fun m e h' => ∃ (n : Nat) (vn : Value) (us : List Value), m = rows.length - n ∧ n ≤ rows.length ∧ e.g 0 = pB ob ∧ e.g 10 = vf ∧ e.g 87 = vw ∧ e.g 88 = .int .i64 rows.length ∧ e.g 89 = .int .i64 n ∧
          OutV h' n0 ob vq vn vr us [] pl ((rows.take n).map fun row => (firsts rows nb).map fun i => row.getD i 0) Rl s ∧ ChgP ob h h' ∧ nC ≤ h'.next ∧ OwnV h' 3 vf (((firsts rows nb).map Int.ofNat).map (.int .i64)) ∧ (bno vn = 0 ∨ nC ≤ bno vn))
        (fun e h' => ∃ (vn : Value) (us : List Value), OutV h' n0 ob vq vn vr us [] pl (rows.map fun row => (firsts rows nb).map fun i => row.getD i 0) Rl s ∧ ChgP ob h h') ?_ ?_ ?_
      · refine ⟨_, 0, .slice none 0 0, [], rfl, by omega, ?_, ?_, ?_, ?_, ?_, ov, cp, by omega, of_, .inl rfl⟩
        all_goals simp (maxSteps := 2000000) (disch := first | omega | assumption | (simp only [oneC_int, oneC_bool, oneC_str, oneC_ptr, oneC_sl, oneC_map]; done) | (simp only [List.length_cons, List.length_nil, List.length_set, List.length_map, List.length_replicate, List.length_append, List.length_take, List.length_drop, Int.toNat_natCast] <;> omega) | fail) only [Go.Rx.vi, Go.Rx.vb, Go.Rx.vstr, rxc, rxo, Nat.reduceLeDiff, List.getElem?_cons_zero, List.getElem?_cons_succ, List.length_cons, List.length_nil, List.set_cons_zero, List.set_cons_succ, ↓reduceIte, Bool.not_true, Bool.not_false, true_and, and_true, not_true_eq_false, not_false_eq_true, decide_true, decide_false, Nat.reduceEqDiff, Nat.reduceAdd, Nat.reduceMul, Nat.reducePow, Int.reduceToNat, Int.reducePow, Nat.zero_add, Nat.mul_one, Int.toNat_natCast, e0, e3, e10]
        rfl
      · rintro m e h' ⟨n, vn, us, rfl, hn, e0, e10, e87, e88, e89, ov, cp, hnx, of_, hvn⟩
        simp (maxSteps := 2000000) (disch := first | omega | assumption | (simp only [oneC_int, oneC_bool, oneC_str, oneC_ptr, oneC_sl, oneC_map]; done) | (simp only [List.length_cons, List.length_nil, List.length_set, List.length_map, List.length_replicate, List.length_append, List.length_take, List.length_drop, Int.toNat_natCast] <;> omega) | fail) only [Go.Rx.vi, Go.Rx.vb, Go.Rx.vstr, rxc, rxo, Nat.reduceLeDiff, List.getElem?_cons_zero, List.getElem?_cons_succ, List.length_cons, List.length_nil, List.set_cons_zero, List.set_cons_succ, ↓reduceIte, Bool.not_true, Bool.not_false, true_and, and_true, not_true_eq_false, not_false_eq_true, decide_true, decide_false, Nat.reduceEqDiff, Nat.reduceAdd, Nat.reduceMul, Nat.reducePow, Int.reduceToNat, Int.reducePow, Nat.zero_add, Nat.mul_one, Int.toNat_natCast, B47_3, R47_26, e0, e10, e87, e88, e89]
        refine WCond_dec (fun hc => ?_) (fun hc => ?_)
        · have wr := (hw.cp cp (.inl hwb)).r
          have fr := of_.sl.r
          simp only [hrl, List.length_map] at wr fr
          simp (maxSteps := 2000000) (disch := first | omega | assumption | (simp only [oneC_int, oneC_bool, oneC_str, oneC_ptr, oneC_sl, oneC_map]; done) | (simp only [List.length_cons, List.length_nil, List.length_set, List.length_map, List.length_replicate, List.length_append, List.length_take, List.length_drop, Int.toNat_natCast] <;> omega) | fail) only [Go.Rx.vi, Go.Rx.vb, Go.Rx.vstr, rxc, rxo, Nat.reduceLeDiff, List.getElem?_cons_zero, List.getElem?_cons_succ, List.length_cons, List.length_nil, List.set_cons_zero, List.set_cons_succ, ↓reduceIte, Bool.not_true, Bool.not_false, true_and, and_true, not_true_eq_false, not_false_eq_true, decide_true, decide_false, Nat.reduceEqDiff, Nat.reduceAdd, Nat.reduceMul, Nat.reducePow, Int.reduceToNat, Int.reducePow, Nat.zero_add, Nat.mul_one, Int.toNat_natCast, R47_27, e0, e10, e87, e88, e89, wr, vals_get (l := rs), R47_28, fr]
          refine WI_makec (by omega) (by omega) (by omega) (by omega) (by omega) (by decide) fun u h5 ou g5 fu => ?_
          simp only [Int.toNat_natCast, ints_rep] at ou
          have n5 := g5.next
          have hu := ov.newer fu
          have ov5 := ov.gp g5
          have hovl := ov.lt
          simp (maxSteps := 2000000) (disch := first | omega | assumption | (simp only [oneC_int, oneC_bool, oneC_str, oneC_ptr, oneC_sl, oneC_map]; done) | (simp only [List.length_cons, List.length_nil, List.length_set, List.length_map, List.length_replicate, List.length_append, List.length_take, List.length_drop, Int.toNat_natCast] <;> omega) | fail) only [Go.Rx.vi, Go.Rx.vb, Go.Rx.vstr, rxc, rxo, Nat.reduceLeDiff, List.getElem?_cons_zero, List.getElem?_cons_succ, List.length_cons, List.length_nil, List.set_cons_zero, List.set_cons_succ, ↓reduceIte, Bool.not_true, Bool.not_false, true_and, and_true, not_true_eq_false, not_false_eq_true, decide_true, decide_false, Nat.reduceEqDiff, Nat.reduceAdd, Nat.reduceMul, Nat.reducePow, Int.reduceToNat, Int.reducePow, Nat.zero_add, Nat.mul_one, Int.toNat_natCast, e0, e10, e87, e88, e89, R47_29, fr]
          refine WC_bloop 24 (fun m e hh => ∃ (j : Nat) (r : List Int), m = (firsts rows nb).length - j ∧ j ≤ (firsts rows nb).length ∧ e.g 0 = pB ob ∧ e.g 10 = vf ∧ e.g 20 = rs.getD n undef ∧ e.g 21 = u ∧ e.g 87 = vw ∧ e.g 88 = .int .i64 rows.length ∧ e.g 89 = .int .i64 n ∧ e.g 96 = vf ∧ e.g 97 = .int .i64 (firsts rows nb).length ∧ e.g 98 = .int .i64 j ∧
              OutV hh n0 ob vq vn vr us [] pl ((rows.take n).map fun row => (firsts rows nb).map fun i => row.getD i 0) Rl s ∧ ChgP ob h hh ∧ nC ≤ hh.next ∧ OwnV hh 3 vf (((firsts rows nb).map Int.ofNat).map (.int .i64)) ∧ OwnV hh 3 u (r.map (.int .i64)) ∧ r.length = (firsts rows nb).length ∧
              ∀ j' : Nat, j' < j → r.getD j' 0 = (rows.getD n []).getD ((firsts rows nb).getD j' 0) 0)
            (fun e hh => ∃ (r : List Int), e.g 0 = pB ob ∧ e.g 10 = vf ∧ e.g 21 = u ∧ e.g 87 = vw ∧ e.g 88 = .int .i64 rows.length ∧ e.g 89 = .int .i64 n ∧
              OutV hh n0 ob vq vn vr us [] pl ((rows.take n).map fun row => (firsts rows nb).map fun i => row.getD i 0) Rl s ∧ ChgP ob h hh ∧ nC ≤ hh.next ∧ OwnV hh 3 vf (((firsts rows nb).map Int.ofNat).map (.int .i64)) ∧ OwnV hh 3 u (r.map (.int .i64)) ∧ r = (firsts rows nb).map fun i => (rows.getD n []).getD i 0) ?_ ?_ ?_
          · refine ⟨_, 0, List.replicate (firsts rows nb).length 0, rfl, by omega, ?_, ?_, ?_, ?_, ?_, ?_, ?_, ?_, ?_, ?_, ov5, cp.gp g5, by omega, of_.gp g5, ou, by simp, fun j' hj' => by omega⟩
            all_goals simp (maxSteps := 2000000) (disch := first | omega | assumption | (simp only [oneC_int, oneC_bool, oneC_str, oneC_ptr, oneC_sl, oneC_map]; done) | (simp only [List.length_cons, List.length_nil, List.length_set, List.length_map, List.length_replicate, List.length_append, List.length_take, List.length_drop, Int.toNat_natCast] <;> omega) | fail) only [Go.Rx.vi, Go.Rx.vb, Go.Rx.vstr, rxc, rxo, Nat.reduceLeDiff, List.getElem?_cons_zero, List.getElem?_cons_succ, List.length_cons, List.length_nil, List.set_cons_zero, List.set_cons_succ, ↓reduceIte, Bool.not_true, Bool.not_false, true_and, and_true, not_true_eq_false, not_false_eq_true, decide_true, decide_false, Nat.reduceEqDiff, Nat.reduceAdd, Nat.reduceMul, Nat.reducePow, Int.reduceToNat, Int.reducePow, Nat.zero_add, Nat.mul_one, Int.toNat_natCast, e0, e10, e87, e88, e89]
            rfl
          · rintro m e hh ⟨j, r, rfl, hj, e0, e10, e20, e21, e87, e88, e89, e96, e97, e98, ov, cp, hnx, of_, ou, hrl', hrs⟩
            simp (maxSteps := 2000000) (disch := first | omega | assumption | (simp only [oneC_int, oneC_bool, oneC_str, oneC_ptr, oneC_sl, oneC_map]; done) | (simp only [List.length_cons, List.length_nil, List.length_set, List.length_map, List.length_replicate, List.length_append, List.length_take, List.length_drop, Int.toNat_natCast] <;> omega) | fail) only [Go.Rx.vi, Go.Rx.vb, Go.Rx.vstr, rxc, rxo, Nat.reduceLeDiff, List.getElem?_cons_zero, List.getElem?_cons_succ, List.length_cons, List.length_nil, List.set_cons_zero, List.set_cons_succ, ↓reduceIte, Bool.not_true, Bool.not_false, true_and, and_true, not_true_eq_false, not_false_eq_true, decide_true, decide_false, Nat.reduceEqDiff, Nat.reduceAdd, Nat.reduceMul, Nat.reducePow, Int.reduceToNat, Int.reducePow, Nat.zero_add, Nat.mul_one, Int.toNat_natCast, B47_4, R47_30, e0, e10, e20, e21, e87, e88, e89, e96, e97, e98]
            refine WCond_dec (fun hc2 => ?_) (fun hc2 => ?_)
            · have fr := of_.sl.r
              have rr := ((hrow n (by omega)).cp cp (.inl (hrob n (by omega)))).r
              have ur := ou.sl.r
              have hwn := hwid n (by omega)
              simp only [List.length_map, hwn, hrl'] at fr rr ur
              have hmem : (firsts rows nb).getD j 0 ∈ firsts rows nb := by
                rw [List.getD_eq_getElem?_getD, List.getElem?_eq_getElem (by omega)]; exact List.getElem_mem _
              obtain ⟨f1, f2⟩ := firsts_lt hmem
              have hfg : (((firsts rows nb).map Int.ofNat).map (Value.int .i64))[j]? = some (.int .i64 ((firsts rows nb).getD j 0 : Nat)) := by
                rw [ints_get (by rw [List.length_map]; omega), getD_map (d' := 0) (by omega)]; rfl
              simp (maxSteps := 2000000) (disch := first | omega | assumption | (simp only [oneC_int, oneC_bool, oneC_str, oneC_ptr, oneC_sl, oneC_map]; done) | (simp only [List.length_cons, List.length_nil, List.length_set, List.length_map, List.length_replicate, List.length_append, List.length_take, List.length_drop, Int.toNat_natCast] <;> omega) | fail) only [Go.Rx.vi, Go.Rx.vb, Go.Rx.vstr, rxc, rxo, Nat.reduceLeDiff, List.getElem?_cons_zero, List.getElem?_cons_succ, List.length_cons, List.length_nil, List.set_cons_zero, List.set_cons_succ, ↓reduceIte, Bool.not_true, Bool.not_false, true_and, and_true, not_true_eq_false, not_false_eq_true, decide_true, decide_false, Nat.reduceEqDiff, Nat.reduceAdd, Nat.reduceMul, Nat.reducePow, Int.reduceToNat, Int.reducePow, Nat.zero_add, Nat.mul_one, Int.toNat_natCast, R47_31, e0, e10, e20, e21, e87, e88, e89, e96, e97, e98, fr, hfg, R47_32, rr, ints_get, ur]
              refine WI_storec ou (by rw [List.length_map]; omega) rfl fun h6 o6 c6 => ?_
              rw [ints_set] at o6
              simp (maxSteps := 2000000) (disch := first | omega | assumption | (simp only [oneC_int, oneC_bool, oneC_str, oneC_ptr, oneC_sl, oneC_map]; done) | (simp only [List.length_cons, List.length_nil, List.length_set, List.length_map, List.length_replicate, List.length_append, List.length_take, List.length_drop, Int.toNat_natCast] <;> omega) | fail) only [Go.Rx.vi, Go.Rx.vb, Go.Rx.vstr, rxc, rxo, Nat.reduceLeDiff, List.getElem?_cons_zero, List.getElem?_cons_succ, List.length_cons, List.length_nil, List.set_cons_zero, List.set_cons_succ, ↓reduceIte, Bool.not_true, Bool.not_false, true_and, and_true, not_true_eq_false, not_false_eq_true, decide_true, decide_false, Nat.reduceEqDiff, Nat.reduceAdd, Nat.reduceMul, Nat.reducePow, Int.reduceToNat, Int.reducePow, Nat.zero_add, Nat.mul_one, Int.toNat_natCast, e0, e10, e20, e21, e87, e88, e89, e96, e97, e98, R47_33]
              refine ⟨_, by omega, j + 1, _, rfl, by omega, by simp, ov.other c6 hu, cp.chg c6 (by omega), by have := c6.next; omega, of_.chg c6 (by omega), o6, by simp [hrl'], fun j' hj' => ?_⟩
              rw [getD_set (by omega)]
              by_cases e : j = j'
              · subst e; rw [if_pos rfl]
              · rw [if_neg e]; exact hrs j' (by omega)
            · simp (maxSteps := 2000000) (disch := first | omega | assumption | (simp only [oneC_int, oneC_bool, oneC_str, oneC_ptr, oneC_sl, oneC_map]; done) | (simp only [List.length_cons, List.length_nil, List.length_set, List.length_map, List.length_replicate, List.length_append, List.length_take, List.length_drop, Int.toNat_natCast] <;> omega) | fail) only [Go.Rx.vi, Go.Rx.vb, Go.Rx.vstr, rxc, rxo, Nat.reduceLeDiff, List.getElem?_cons_zero, List.getElem?_cons_succ, List.length_cons, List.length_nil, List.set_cons_zero, List.set_cons_succ, ↓reduceIte, Bool.not_true, Bool.not_false, true_and, and_true, not_true_eq_false, not_false_eq_true, decide_true, decide_false, Nat.reduceEqDiff, Nat.reduceAdd, Nat.reduceMul, Nat.reducePow, Int.reduceToNat, Int.reducePow, Nat.zero_add, Nat.mul_one, Int.toNat_natCast, e0, e10, e21, e87, e88, e89]
              refine ⟨r, ov, cp, hnx, of_, ou, ?_⟩
              refine ext_getD 0 (by simp [hrl']) fun j' hj' => ?_
              rw [hrs j' (by omega), getD_map (d' := 0) (by omega)]
          · rintro e hh ⟨r, e0, e10, e21, e87, e88, e89, ov, cp, hnx, of_, ou, rfl⟩
            have gnx := cp.next
            have hul := ov.len
            have htl2 : ∀ x y : Value, (dfaC s pl x y).length = 259 := fun x y => dfaC_len ov.pl
            rw [List.length_map, List.length_take] at hul
            simp (maxSteps := 2000000) (disch := first | omega | assumption | (simp only [oneC_int, oneC_bool, oneC_str, oneC_ptr, oneC_sl, oneC_map]; done) | (simp only [List.length_cons, List.length_nil, List.length_set, List.length_map, List.length_replicate, List.length_append, List.length_take, List.length_drop, Int.toNat_natCast] <;> omega) | fail) only [Go.Rx.vi, Go.Rx.vb, Go.Rx.vstr, rxc, rxo, Nat.reduceLeDiff, List.getElem?_cons_zero, List.getElem?_cons_succ, List.length_cons, List.length_nil, List.set_cons_zero, List.set_cons_succ, ↓reduceIte, Bool.not_true, Bool.not_false, true_and, and_true, not_true_eq_false, not_false_eq_true, decide_true, decide_false, Nat.reduceEqDiff, Nat.reduceAdd, Nat.reduceMul, Nat.reducePow, Int.reduceToNat, Int.reducePow, Nat.zero_add, Nat.mul_one, Int.toNat_natCast, e0, e10, e21, e87, e88, e89, R47_34, ov.tab, dfaC_257 ov.pl, cellsN_one ou.sl.oneC]
            refine WI_app1c (by omega) ov.on ou.sl.isSl (by omega) fun vn' h6 o6 c6 f6 => ?_
            have hne : bno vn ≠ ob ∨ bno vn = 0 := ov.ne_tab 1 (by omega)
            have htab6 : h6.at ob = some (.cells (dfaC s pl vn vr) 34 true) := by
              rw [c6.at_ _ ov.lt (by omega)]; exact ov.tab
            have hz := htl2 vn vr
            simp (maxSteps := 2000000) (disch := first | omega | assumption | (simp only [oneC_int, oneC_bool, oneC_str, oneC_ptr, oneC_sl, oneC_map]; done) | (simp only [List.length_cons, List.length_nil, List.length_set, List.length_map, List.length_replicate, List.length_append, List.length_take, List.length_drop, Int.toNat_natCast] <;> omega) | fail) only [Go.Rx.vi, Go.Rx.vb, Go.Rx.vstr, rxc, rxo, Nat.reduceLeDiff, List.getElem?_cons_zero, List.getElem?_cons_succ, List.length_cons, List.length_nil, List.set_cons_zero, List.set_cons_succ, ↓reduceIte, Bool.not_true, Bool.not_false, true_and, and_true, not_true_eq_false, not_false_eq_true, decide_true, decide_false, Nat.reduceEqDiff, Nat.reduceAdd, Nat.reduceMul, Nat.reducePow, Int.reduceToNat, Int.reducePow, Nat.zero_add, Nat.mul_one, Int.toNat_natCast, e0, e10, e21, e87, e88, e89, htab6, cellsN_one o6.sl.oneC, stM_one o6.sl.oneC, dfaC_set257 ov.pl, R47_35]
            have c7 : Chg ob h6 (h6.set ob (some (.cells (dfaC s pl vn' vr) 34 true))) := Chg.set
            have ov7 := ov.addRow (by omega) ou hu (by omega) o6 c6 f6 c7 at_set_same
            have hvfne : bno vf ≠ bno vn ∨ bno vf = 0 := by omega
            refine ⟨_, by omega, n + 1, vn', us ++ [u], rfl, by omega, by simp, ?_, (cp.chg c6 (by omega)).chg c7 (by omega), by have := c6.next; omega, (of_.chg c6 hvfne).chg c7 (by omega), by omega⟩
            rw [take_snoc' (d := []) (by omega), List.map_append]
            exact ov7
        · rw [List.take_of_length_le (by omega)] at ov
          simp (maxSteps := 2000000) (disch := first | omega | assumption | (simp only [oneC_int, oneC_bool, oneC_str, oneC_ptr, oneC_sl, oneC_map]; done) | (simp only [List.length_cons, List.length_nil, List.length_set, List.length_map, List.length_replicate, List.length_append, List.length_take, List.length_drop, Int.toNat_natCast] <;> omega) | fail) only [Go.Rx.vi, Go.Rx.vb, Go.Rx.vstr, rxc, rxo, Nat.reduceLeDiff, List.getElem?_cons_zero, List.getElem?_cons_succ, List.length_cons, List.length_nil, List.set_cons_zero, List.set_cons_succ, ↓reduceIte, Bool.not_true, Bool.not_false, true_and, and_true, not_true_eq_false, not_false_eq_true, decide_true, decide_false, Nat.reduceEqDiff, Nat.reduceAdd, Nat.reduceMul, Nat.reducePow, Int.reduceToNat, Int.reducePow, Nat.zero_add, Nat.mul_one, Int.toNat_natCast]
          exact ⟨vn, us, ov, cp⟩
      · rintro e h' ⟨vn, us, ov, cp⟩
        simp (maxSteps := 2000000) (disch := first | omega | assumption | (simp only [oneC_int, oneC_bool, oneC_str, oneC_ptr, oneC_sl, oneC_map]; done) | (simp only [List.length_cons, List.length_nil, List.length_set, List.length_map, List.length_replicate, List.length_append, List.length_take, List.length_drop, Int.toNat_natCast] <;> omega) | fail) only [Go.Rx.vi, Go.Rx.vb, Go.Rx.vstr, rxc, rxo, Nat.reduceLeDiff, List.getElem?_cons_zero, List.getElem?_cons_succ, List.length_cons, List.length_nil, List.set_cons_zero, List.set_cons_succ, ↓reduceIte, Bool.not_true, Bool.not_false, true_and, and_true, not_true_eq_false, not_false_eq_true, decide_true, decide_false, Nat.reduceEqDiff, Nat.reduceAdd, Nat.reduceMul, Nat.reducePow, Int.reduceToNat, Int.reducePow, Nat.zero_add, Nat.mul_one, Int.toNat_natCast]
        refine hk h' vn us pl (fun i => ((lkp ps (toK (keyC rows i))).getD 0).toNat) ov cp fun i hi => ?_
        obtain ⟨c, q1, q2⟩ := hlk i hi
        obtain ⟨c0, c1, c2⟩ := hnum.get q1
        have hck := hpk _ _ _ c2
        rw [q1]
        have hmem : (firsts rows nb).getD c.toNat 0 ∈ firsts rows nb := by
          rw [List.getD_eq_getElem?_getD, List.getElem?_eq_getElem (by omega)]; exact List.getElem_mem _
        obtain ⟨f1, f2⟩ := firsts_lt hmem
        refine ⟨by simp only [Option.getD_some]; omega, ((keyC_iff hwid hrng hi f1).1 hck).symm, fun b hb he => ?_⟩
        rw [hpls b hb, he, q2]
        simp only [Option.getD_some]
        omega
end Go.Rx

namespace Go.Rx
variable {M : Mach}
set_option maxRecDepth 4000
set_option linter.unusedSimpArgs false
set_option linter.unusedVariables false

structure BfsV (h : Heap) (n0 : Nat) (vw vm vo : Value) (rs : List Value) (R : List (List Int)) (num ord : List Int) : Prop where
  on : OwnV h 32 vw rs
  om : OwnV h 3 vm (num.map (.int .i64))
  oo : OwnV h 3 vo (ord.map (.int .i64))
  len : rs.length = R.length
  row : ∀ i : Nat, i < R.length → OwnV h 3 (rs.getD i undef) ((R.getD i []).map (.int .i64))
  sep : Sep (vw :: vm :: vo :: rs)
  fresh : ∀ i : Nat, i < rs.length + 3 → bno ((vw :: vm :: vo :: rs).getD i undef) = 0 ∨ n0 ≤ bno ((vw :: vm :: vo :: rs).getD i undef)
section
variable {h h' : Heap} {n0 : Nat} {vw vm vo : Value} {rs : List Value} {R : List (List Int)} {num ord : List Int}
theorem BfsV.lows (b : BfsV h n0 vw vm vo rs R num ord) : ∀ j : Nat, j < (vw :: vm :: vo :: rs).length → bno ((vw :: vm :: vo :: rs).getD j undef) < h.next
  | 0, _ => b.on.1
  | 1, _ => b.om.1
  | 2, _ => b.oo.1
  | j + 3, hj => (b.row j (by rw [← b.len]; simpa using hj)).1
theorem BfsV.other (b : BfsV h n0 vw vm vo rs R num ord) {w : Nat} (c : Chg w h h') (hw : ∀ i : Nat, i < rs.length + 3 → bno ((vw :: vm :: vo :: rs).getD i undef) = 0 ∨ bno ((vw :: vm :: vo :: rs).getD i undef) ≠ w) : BfsV h' n0 vw vm vo rs R num ord :=
  ⟨b.on.chg c (hw 0 (by omega)).symm, b.om.chg c (hw 1 (by omega)).symm, b.oo.chg c (hw 2 (by omega)).symm, b.len, fun i hi => (b.row i hi).chg c (hw (i + 3) (by rw [b.len]; omega)).symm, b.sep, b.fresh⟩
theorem BfsV.gp (b : BfsV h n0 vw vm vo rs R num ord) (g : GrowP h h') : BfsV h' n0 vw vm vo rs R num ord := b.other g.c (fun i _ => by omega)
theorem BfsV.newer (b : BfsV h n0 vw vm vo rs R num ord) {w : Nat} (hw : h.next ≤ w) : ∀ i : Nat, i < rs.length + 3 → bno ((vw :: vm :: vo :: rs).getD i undef) = 0 ∨ bno ((vw :: vm :: vo :: rs).getD i undef) ≠ w :=
  fun i hi => by have := b.lows i (by simpa using hi); omega
theorem BfsV.setNum (b : BfsV h n0 vw vm vo rs R num ord) {num' : List Int} (o : OwnV h' 3 vm (num'.map (.int .i64))) (c : Chg (bno vm) h h') : BfsV h' n0 vw vm vo rs R num' ord :=
  ⟨b.on.chg c (sep_ne b.sep (i := 0) (j := 1) (by simp) (by simp) (by decide)), o, b.oo.chg c (sep_ne b.sep (i := 2) (j := 1) (by simp) (by simp) (by decide)), b.len, fun i hi => (b.row i hi).chg c (sep_ne b.sep (i := i + 3) (j := 1) (by simp [b.len, hi]) (by simp) (by omega)), b.sep, b.fresh⟩
theorem BfsV.push (b : BfsV h n0 vw vm vo rs R num ord) (hn : n0 ≤ h.next) {vo' : Value} {ord' : List Int} (o : OwnV h' 3 vo' (ord'.map (.int .i64))) (c : Chg (bno vo) h h') (f : bno vo' = bno vo ∨ h.next ≤ bno vo') : BfsV h' n0 vw vm vo' rs R num ord' := by
  have hl := b.lows
  refine ⟨b.on.chg c (sep_ne b.sep (i := 0) (j := 2) (by simp) (by simp) (by decide)), b.om.chg c (sep_ne b.sep (i := 1) (j := 2) (by simp) (by simp) (by decide)), o, b.len, fun i hi => (b.row i hi).chg c (sep_ne b.sep (i := i + 3) (j := 2) (by simp [b.len, hi]) (by simp) (by omega)), ?_, fun i hi => ?_⟩
  · have := b.sep.upd (i := 2) (v' := vo') (n := h.next) (by simp) hl f
    simpa using this
  · have fr := b.fresh i hi
    match i with
    | 0 => exact fr
    | 1 => exact fr
    | 2 =>
      have fr : bno vo = 0 ∨ n0 ≤ bno vo := fr
      show bno vo' = 0 ∨ n0 ≤ bno vo'
      omega
    | i + 3 => exact fr
theorem BfsV.addRow (b : BfsV h n0 vw vm vo rs R num ord) (hn : n0 ≤ h.next) {u : Value} {r : List Int} (ou : OwnV h 3 u (r.map (.int .i64))) (hu : ∀ i : Nat, i < rs.length + 3 → bno ((vw :: vm :: vo :: rs).getD i undef) = 0 ∨ bno ((vw :: vm :: vo :: rs).getD i undef) ≠ bno u) (hu0 : n0 ≤ bno u)
    {vw' : Value} (o : OwnV h' 32 vw' (rs ++ [u])) (c : Chg (bno vw) h h') (f : bno vw' = bno vw ∨ h.next ≤ bno vw') : BfsV h' n0 vw' vm vo (rs ++ [u]) (R ++ [r]) num ord := by
  have hl := b.lows
  have hun : bno u < h.next := ou.1
  have s1 : Sep (vw' :: vm :: vo :: rs) := by
    have := b.sep.upd (i := 0) (v' := vw') (n := h.next) (by simp) hl f
    simpa using this
  have s2 : Sep (vw' :: vm :: vo :: (rs ++ [u])) := by
    have := sep_snoc s1 (u := u) (fun i hi => by
      have hi : i < rs.length + 3 := by simpa using hi
      have q := hu i hi
      match i with
      | 0 =>
        have q : bno vw = 0 ∨ bno vw ≠ bno u := q
        show bno vw' = 0 ∨ bno vw' ≠ bno u
        omega
      | 1 => exact q
      | 2 => exact q
      | i + 3 => exact q)
    simpa using this
  refine ⟨o, b.om.chg c (sep_ne b.sep (i := 1) (j := 0) (by simp) (by simp) (by decide)), b.oo.chg c (sep_ne b.sep (i := 2) (j := 0) (by simp) (by simp) (by decide)), by simp [b.len], fun i hi => ?_, s2, fun i hi => ?_⟩
  · rw [List.length_append, List.length_singleton] at hi
    rw [getD_app, getD_app]
    by_cases hi2 : i < R.length
    · rw [if_pos (by rw [b.len]; exact hi2), if_pos hi2]
      exact (b.row i hi2).chg c (sep_ne b.sep (i := i + 3) (j := 0) (by simp [b.len, hi2]) (by simp) (by omega))
    · rw [if_neg (by rw [b.len]; exact hi2), if_neg hi2, if_pos (by rw [b.len]; omega), if_pos (by omega)]
      refine ou.chg c ?_
      have := hu 0 (by omega)
      simp only [List.getD_cons_zero] at this
      omega
  · rw [List.length_append, List.length_singleton] at hi
    have fr := b.fresh
    match i, hi with
    | 0, _ =>
      have q : bno vw = 0 ∨ n0 ≤ bno vw := fr 0 (by omega)
      show bno vw' = 0 ∨ n0 ≤ bno vw'
      omega
    | 1, _ => exact fr 1 (by omega)
    | 2, _ => exact fr 2 (by omega)
    | i + 3, hi =>
      show bno ((rs ++ [u]).getD i undef) = 0 ∨ n0 ≤ bno ((rs ++ [u]).getD i undef)
      rw [getD_app]
      by_cases hi2 : i < rs.length
      · rw [if_pos hi2]; exact fr (i + 3) (by omega)
      · rw [if_neg hi2, if_pos (by omega)]; exact .inr hu0
end

/-- What the numbers are. -/
structure NumI (of : List Int) (k : Nat) (st : BSt) : Prop where
  len : st.num.length = k
  ord : ∀ j : Nat, j < st.ord.length → 0 ≤ st.ord.getD j 0 ∧ st.ord.getD j 0 < k ∧ st.num.getD (of.getD (st.ord.getD j 0).toNat 0).toNat 0 = j + 1
  num : ∀ c : Nat, c < k → 0 ≤ st.num.getD c 0 ∧ st.num.getD c 0 ≤ st.ord.length
theorem NumI.le {of : List Int} {k : Nat} {st : BSt} (hof : ∀ s, s < k → 0 ≤ of.getD s 0 ∧ of.getD s 0 < k) (n : NumI of k st) : st.ord.length ≤ k :=
  pig k st.ord.length (fun j => (of.getD (st.ord.getD j 0).toNat 0).toNat) (fun j hj => by
    obtain ⟨a, b, _⟩ := n.ord j hj
    have := hof (st.ord.getD j 0).toNat (by omega)
    omega) (fun i j hi hj he => by
    have h1 := (n.ord i hi).2.2
    have h2 := (n.ord j hj).2.2
    have he : (of.getD (st.ord.getD i 0).toNat 0).toNat = (of.getD (st.ord.getD j 0).toNat 0).toNat := he
    rw [he, h2] at h1
    omega)
theorem NumI.step {of : List Int} {k : Nat} {st : BSt} (hof : ∀ s, s < k → 0 ≤ of.getD s 0 ∧ of.getD s 0 < k) (n : NumI of k st) {x : Int} (hx : x < k) : NumI of k (bst1 of st x).1 := by
  unfold bst1
  by_cases h0 : x < 0
  · rw [if_pos h0]; exact n
  · rw [if_neg h0]
    have hb := hof x.toNat (by omega)
    by_cases h1 : st.num.getD (of.getD x.toNat 0).toNat 0 = 0
    · rw [if_pos h1]
      have hl : (of.getD x.toNat 0).toNat < st.num.length := by rw [n.len]; omega
      refine ⟨by simp [n.len], fun j hj => ?_, fun c hc => ?_⟩
      · simp only [List.length_append, List.length_singleton] at hj
        simp only
        rw [getD_app]
        by_cases hj2 : j < st.ord.length
        · rw [if_pos hj2]
          obtain ⟨a, b, c⟩ := n.ord j hj2
          refine ⟨a, b, ?_⟩
          rw [getD_set hl, if_neg (fun he => by rw [← he, h1] at c; omega)]
          exact c
        · rw [if_neg hj2, if_pos (by omega), getD_set hl, if_pos rfl]
          exact ⟨by omega, hx, by omega⟩
      · simp only [List.length_append, List.length_singleton]
        rw [getD_set hl]
        have := n.num c hc
        split <;> omega
    · rw [if_neg h1]; exact n
theorem NumI.row {of : List Int} {k : Nat} (hof : ∀ s, s < k → 0 ≤ of.getD s 0 ∧ of.getD s 0 < k) : ∀ {l : List Int} {st : BSt}, NumI of k st → (∀ x ∈ l, x < k) → NumI of k (bstR of l st).1
  | [], st, n, _ => n
  | x :: l, st, n, h => (NumI.row hof (l := l) (st := (bst1 of st x).1) (n.step hof (h x (by simp))) (fun y hy => h y (by simp [hy])) : NumI of k (bstR of l (bst1 of st x).1).1)
theorem bstR_len {of : List Int} : ∀ (l : List Int) (st : BSt), (bstR of l st).2.length = l.length
  | [], _ => rfl
  | x :: l, st => by simp [bstR, bstR_len l]
theorem bst1_ord {of : List Int} {st : BSt} {x : Int} : ∃ l, (bst1 of st x).1.ord = st.ord ++ l := by
  unfold bst1
  by_cases h0 : x < 0
  · rw [if_pos h0]; exact ⟨[], by simp⟩
  · rw [if_neg h0]
    by_cases h1 : st.num.getD (of.getD x.toNat 0).toNat 0 = 0
    · rw [if_pos h1]; exact ⟨[x], rfl⟩
    · rw [if_neg h1]; exact ⟨[], by simp⟩
theorem bst1_val {of : List Int} {k : Nat} {st : BSt} (hof : ∀ s, s < k → 0 ≤ of.getD s 0 ∧ of.getD s 0 < k) (n : NumI of k st) {x : Int} (hx : x < k) : -1 ≤ (bst1 of st x).2 ∧ (bst1 of st x).2 < k := by
  have hle := n.le hof
  have hle' := (n.step hof hx).le hof
  unfold bst1 at *
  by_cases h0 : x < 0
  · rw [if_pos h0]; simp only; omega
  · rw [if_neg h0] at *
    have hb := hof x.toNat (by omega)
    have := n.num (of.getD x.toNat 0).toNat (by omega)
    by_cases h1 : st.num.getD (of.getD x.toNat 0).toNat 0 = 0
    · rw [if_pos h1] at *
      simp only [List.length_append, List.length_singleton] at *
      omega
    · rw [if_neg h1]
      simp only
      omega
theorem bstR_val {of : List Int} {k : Nat} (hof : ∀ s, s < k → 0 ≤ of.getD s 0 ∧ of.getD s 0 < k) : ∀ {l : List Int} {st : BSt}, NumI of k st → (∀ x ∈ l, x < k) → ∀ y ∈ (bstR of l st).2, -1 ≤ y ∧ y < k
  | [], st, n, _, y, hy => by simp [bstR] at hy
  | x :: l, st, n, h, y, hy => by
    simp only [bstR, List.mem_cons] at hy
    rcases hy with rfl | hy
    · exact bst1_val hof n (h x (by simp))
    · exact bstR_val hof (l := l) (st := (bst1 of st x).1) (n.step hof (h x (by simp))) (fun z hz => h z (by simp [hz])) y hy
end Go.Rx

namespace Go.Rx
variable {M : Mach}
set_option maxRecDepth 4000
set_option linter.unusedSimpArgs false
set_option linter.unusedVariables false

theorem repsTo_mem {cls : List Int} {n : Nat} {x : Int} : x ∈ repsTo cls n ↔ ∃ b : Nat, b < n ∧ firstB cls b = true ∧ x = b := by
  unfold repsTo
  simp only [List.mem_map, List.mem_filter, List.mem_range]
  constructor
  · rintro ⟨b, ⟨h1, h2⟩, rfl⟩; exact ⟨b, h1, h2, rfl⟩
  · rintro ⟨b, h1, h2, rfl⟩; exact ⟨b, ⟨h1, h2⟩, rfl⟩
theorem repsTo_rise {cls : List Int} : ∀ {n i j : Nat}, i < j → j < (repsTo cls n).length → (repsTo cls n).getD i 0 < (repsTo cls n).getD j 0
  | 0, i, j, _, h => by simp [repsTo] at h
  | n + 1, i, j, hij, h => by
    rw [repsTo_succ] at h ⊢
    split at h
    · rename_i hf
      rw [if_pos hf]
      rw [List.length_append, List.length_singleton] at h
      rw [getD_app, getD_app, if_pos (by omega)]
      by_cases hj : j < (repsTo cls n).length
      · rw [if_pos hj]; exact repsTo_rise hij hj
      · rw [if_neg hj, if_pos (by omega)]
        exact (repsTo_range (getD_mem (l := repsTo cls n) (i := i) (by omega))).2
    · rename_i hf
      rw [if_neg hf]; exact repsTo_rise hij h
theorem reps_inj {cls : List Int} {i j : Nat} (hi : i < (repsTo cls 256).length) (hj : j < (repsTo cls 256).length) (h : cls.getD ((repsTo cls 256).getD i 0).toNat 0 = cls.getD ((repsTo cls 256).getD j 0).toNat 0) : i = j := by
  obtain ⟨b, b1, b2, b3⟩ := repsTo_mem.1 (getD_mem hi)
  obtain ⟨c, c1, c2, c3⟩ := repsTo_mem.1 (getD_mem hj)
  rw [b3, c3] at h
  simp only [Int.toNat_natCast] at h
  have h1 := firstB_iff.1 b2
  have h2 := firstB_iff.1 c2
  have hbc : b = c := by
    rcases Nat.lt_trichotomy b c with hl | hl | hl
    · exact absurd h (h2 b hl)
    · exact hl
    · exact absurd h.symm (h1 c hl)
  rcases Nat.lt_trichotomy i j with hl | hl | hl
  · have := repsTo_rise hl hj; omega
  · exact hl
  · have := repsTo_rise hl hi; omega
theorem reps_full {cls : List Int} : ∀ b : Nat, b < 256 → ∃ i, i < (repsTo cls 256).length ∧ cls.getD ((repsTo cls 256).getD i 0).toNat 0 = cls.getD b 0 := by
  intro b
  induction b using Nat.strongRecOn with
  | _ b ih =>
    intro hb
    cases hf : firstB cls b with
    | true =>
      obtain ⟨i, hi, he⟩ := mem_getD (repsTo_mem.2 ⟨b, hb, hf, rfl⟩ : (b : Int) ∈ repsTo cls 256)
      exact ⟨i, hi, by rw [he]; simp⟩
    | false =>
      have : ¬ ∀ a, a < b → cls.getD a 0 ≠ cls.getD b 0 := fun h => by rw [firstB_iff.2 h] at hf; cases hf
      have ⟨a, ha⟩ := Classical.not_forall.1 this
      have ⟨a1, a2⟩ := Classical.not_imp.1 ha
      simp only [ne_eq, Decidable.not_not] at a2
      obtain ⟨i, h1, h2⟩ := ih a a1 (by omega)
      exact ⟨i, h1, by rw [h2, a2]⟩

/-- What the least automaton is. -/
def LeastS (d x : DfaD) : Prop := ∃ (is : List Bool) (T : List (List Int)) (of : List Int) (st : BSt) (rows : List (List Int)) (cc : Nat → Nat),
  is.length = d.next.length ∧ (∀ s : Nat, s < d.next.length → (is.getD s false = true ↔ Alv (d.next.map (tnRow d.cls (repsTo d.cls 256))) (d.rule.map fun x => max x (-1)) s)) ∧ T.length = d.next.length ∧
  (∀ s : Nat, s < d.next.length → T.getD s [] = trimR is (tnRow d.cls (repsTo d.cls 256) (d.next.getD s []))) ∧ of.length = d.next.length ∧ (∀ s, s < d.next.length → 0 ≤ of.getD s 0 ∧ of.getD s 0 < d.next.length) ∧
  (∀ s t, s < d.next.length → t < d.next.length → (of.getD s 0 = of.getD t 0 ↔ ∀ r, Eqv T (d.rule.map fun x => max x (-1)) (repsTo d.cls 256).length r s t)) ∧
  bstF T of (d.next.length + 1) 0 ⟨(List.replicate d.next.length 0).set (of.getD d.start.toNat 0).toNat 1, [d.start]⟩ [] = (st, rows) ∧
  x.start = 0 ∧ x.rule = st.ord.map (fun s => (d.rule.map fun x => max x (-1)).getD s.toNat 0) ∧ x.next = rows.map (fun row => (firsts rows (repsTo d.cls 256).length).map fun i => row.getD i 0) ∧ x.cls.length = 256 ∧
  ∀ i, i < (repsTo d.cls 256).length → cc i < (firsts rows (repsTo d.cls 256).length).length ∧ colF rows ((firsts rows (repsTo d.cls 256).length).getD (cc i) 0) = colF rows i ∧ ∀ b : Nat, b < 256 → d.cls.getD b 0 = d.cls.getD ((repsTo d.cls 256).getD i 0).toNat 0 → x.cls.getD b 0 = cc i

theorem resV_ln {e : Env} {h h' : Heap} {t u n : Nat} {v : Value} (hl : iLoadn (e.g t) n h = some (v, h')) : resV e h [(t, some (some n)), (u, none)] = some (.tuple ⟨[v, e.g u]⟩) := by
  unfold resV
  simp only [resL, res1, hl]
theorem allOne_dfaC {s : Int} {cls : List Int} {vn vr : Value} (h1 : isAggV vn = false) (h2 : isAggV vr = false) : allOne (dfaC s cls vn vr) = true := by
  refine allOne_of fun x hx => ?_
  rcases List.mem_cons.1 hx with rfl | hx
  · rfl
  · rcases List.mem_append.1 hx with hx | hx
    · obtain ⟨y, _, rfl⟩ := List.mem_map.1 hx; rfl
    · simp only [List.mem_cons, List.not_mem_nil, or_false] at hx
      rcases hx with rfl | rfl
      · exact h1
      · exact h2
theorem stM_full {h : Heap} {b : Nat} {vs cs : List Value} {e : TypeId} (hv : allOne vs = true) (h0 : vs ≠ []) (hl : vs.length = cs.length) : stM h b 0 (some vs) (some (.cells cs e true)) = some (undef, h.set b (some (.cells vs e true))) := by
  rw [stM_many hv h0 (by omega)]
  rw [List.take_zero, List.drop_of_length_le (by omega)]
  simp

set_option maxHeartbeats 1000000 in
theorem least_ok (hm : M.Mono) (hO16 : M.O 16 = none) (hF16 : M.F 16 = some A16) (hO40 : M.O 40 = none) (hF40 : M.F 40 = some A40) (hO41 : M.O 41 = none) (hF41 : M.F 41 = some A41) (hO45 : M.O 45 = none) (hF45 : M.F 45 = some A45) (hO46 : M.O 46 = none) (hF46 : M.F 46 = some A46)
  (hO47 : M.O 47 = none) (hF47 : M.F 47 = some A47) (hO70 : M.O 70 = none) (hF70 : M.F 70 = some A70) (hO71 : M.O 71 = none) (hF71 : M.F 71 = some A71) (hO72 : M.O 72 = none) (hF72 : M.F 72 = some A72) (hO73 : M.O 73 = none) (hF73 : M.F 73 = some A73) (hO : M.O 19 = none) (hF : M.F 19 = some A19)
  {v vn vr : Value} {us : List Value} {S : Nat → Prop} {d : DfaD} {h : Heap} {K : KF} (h1n : 1 ≤ h.next) (hd : DfaV h S v vn vr us d) (ok : Dok d)
  (hk : ∀ h' x w wn wr ws, GrowP h h' → DfaV h' (fun b => b = 0 ∨ h.next ≤ b) w wn wr ws x → LeastS d x → K (.tuple ⟨[w, .int .i64 0]⟩) h') : WF M 19 [v] h K := by
  have hv := hd.val
  subst hv
  have ok' := ok
  obtain ⟨k1, k2, k3, k4, k5, k6, k7, k8⟩ := ok
  obtain ⟨k9, k10⟩ := cls_bounds hd.cls hd.byte k7
  rw [WF_eqT 17 hO hF]
  simp (maxSteps := 2000000) (disch := first | omega | assumption | (simp only [oneC_int, oneC_bool, oneC_str, oneC_ptr, oneC_sl, oneC_map]; done) | (simp only [List.length_cons, List.length_nil, List.length_set, List.length_map, List.length_replicate, List.length_append, List.length_take, List.length_drop, Int.toNat_natCast] <;> omega) | fail) only [Go.Rx.vi, Go.Rx.vb, Go.Rx.vstr, rxc, rxo, Nat.reduceLeDiff, List.getElem?_cons_zero, List.getElem?_cons_succ, List.length_cons, List.length_nil, List.set_cons_zero, List.set_cons_succ, ↓reduceIte, Bool.not_true, Bool.not_false, true_and, and_true, not_true_eq_false, not_false_eq_true, decide_true, decide_false, Nat.reduceEqDiff, Nat.reduceAdd, Nat.reduceMul, Nat.reducePow, Int.reduceToNat, Int.reducePow, Nat.zero_add, Nat.mul_one, Int.toNat_natCast, A19, R19_0, dfaC_len hd.cls, dfa0]
  obtain ⟨h1, e1, g1, n1, b1⟩ := boxed h (dfaC d.start d.cls vn vr) 34
  rw [e1]
  obtain ⟨h2, e2, g2, n2, b2⟩ := boxed h1 (dfaC 0 (List.replicate 256 0) (.slice none 0 0) (.slice none 0 0)) 34
  rw [e2]
  have hcd : cut (dfaC d.start d.cls vn vr) 0 259 = some (dfaC d.start d.cls vn vr) := cut_all (dfaC_len hd.cls)
  have b12 : h2.at h.next = some (.cells (dfaC d.start d.cls vn vr) 34 true) := by rw [g2.2 _ (by omega)]; exact b1
  have d2 := hd.grow (g1.trans g2)
  simp (maxSteps := 2000000) (disch := first | omega | assumption | (simp only [oneC_int, oneC_bool, oneC_str, oneC_ptr, oneC_sl, oneC_map]; done) | (simp only [List.length_cons, List.length_nil, List.length_set, List.length_map, List.length_replicate, List.length_append, List.length_take, List.length_drop, Int.toNat_natCast] <;> omega) | fail) only [Go.Rx.vi, Go.Rx.vb, Go.Rx.vstr, rxc, rxo, Nat.reduceLeDiff, List.getElem?_cons_zero, List.getElem?_cons_succ, List.length_cons, List.length_nil, List.set_cons_zero, List.set_cons_succ, ↓reduceIte, Bool.not_true, Bool.not_false, true_and, and_true, not_true_eq_false, not_false_eq_true, decide_true, decide_false, Nat.reduceEqDiff, Nat.reduceAdd, Nat.reduceMul, Nat.reducePow, Int.reduceToNat, Int.reducePow, Nat.zero_add, Nat.mul_one, Int.toNat_natCast, R19_1, b12, hcd]
  refine dfaCheck_ok hO40 hF40 hO41 hF41 hO16 hF16 (by omega) d2 fun r h3 g3 hr => ?_
  have hr0 : r = 0 := hr.2 ok'
  subst hr0
  have b13 : h3.at h.next = some (.cells (dfaC d.start d.cls vn vr) 34 true) := by rw [g3.2 _ (by omega)]; exact b12
  have b23 : h3.at h1.next = some (.cells (dfaC 0 (List.replicate 256 0) (.slice none 0 0) (.slice none 0 0)) 34 true) := by rw [g3.2 _ (by omega)]; exact b2
  have d3 := d2.grow g3
  have n3 := g3.1
  simp (maxSteps := 2000000) (disch := first | omega | assumption | (simp only [oneC_int, oneC_bool, oneC_str, oneC_ptr, oneC_sl, oneC_map]; done) | (simp only [List.length_cons, List.length_nil, List.length_set, List.length_map, List.length_replicate, List.length_append, List.length_take, List.length_drop, Int.toNat_natCast] <;> omega) | fail) only [Go.Rx.vi, Go.Rx.vb, Go.Rx.vstr, rxc, rxo, Nat.reduceLeDiff, List.getElem?_cons_zero, List.getElem?_cons_succ, List.length_cons, List.length_nil, List.set_cons_zero, List.set_cons_succ, ↓reduceIte, Bool.not_true, Bool.not_false, true_and, and_true, not_true_eq_false, not_false_eq_true, decide_true, decide_false, Nat.reduceEqDiff, Nat.reduceAdd, Nat.reduceMul, Nat.reducePow, Int.reduceToNat, Int.reducePow, Nat.zero_add, Nat.mul_one, Int.toNat_natCast, R19_2, R19_4, b13, hcd]
  refine tabled_ok hm hO70 hF70 hO71 hF71 hO72 hF72 hO45 hF45 (by omega) d3 ok' fun h4 tb vy wn wr ws pl T is tv g4 his hal hT hTs => ?_
  have n4 := g4.next
  have hbl : (repsTo d.cls 256).length ≤ 256 := repsTo_le _ _
  have hRl : ∀ s, s < d.next.length → -1 ≤ (d.rule.map fun x => max x (-1)).getD s 0 ∧ (d.rule.map fun x => max x (-1)).getD s 0 < 48 := fun s hs => by
    rw [getD_map (d' := 0) (by omega)]
    have := (k8 s hs).2.2
    omega
  have hTw : ∀ s, s < d.next.length → (T.getD s []).length = (repsTo d.cls 256).length := fun s hs => by rw [hTs s hs]; simp [trimR, tnRow]
  have hTe : ∀ s, s < d.next.length → ∀ j, j < (repsTo d.cls 256).length → -1 ≤ (T.getD s []).getD j 0 ∧ (T.getD s []).getD j 0 < d.next.length := fun s hs j hj => by
    rw [hTs s hs]
    unfold trimR
    rw [getD_map (d' := 0) (by simpa [tnRow] using hj)]
    unfold tnRow
    rw [getD_map (d' := 0) hj]
    have hbr := repsTo_range (getD_mem (l := repsTo d.cls 256) (i := j) hj)
    have hcm := k10 ((repsTo d.cls 256).getD j 0).toNat (by omega)
    have hcb := hd.byte ((repsTo d.cls 256).getD j 0).toNat (by omega)
    obtain ⟨q1, q2, q3⟩ := k8 s hs
    have := le_maxI (getD_mem (l := d.next.getD s []) (i := (d.cls.getD ((repsTo d.cls 256).getD j 0).toNat 0).toNat) (by omega))
    unfold trimX
    split <;> omega
  have tok : Tok T (d.rule.map fun x => max x (-1)) (repsTo d.cls 256).length d.next.length := ⟨hT, by rw [List.length_map]; exact k3, k1, k2, hbl, hTw, hRl, hTe⟩
  simp (maxSteps := 2000000) (disch := first | omega | assumption | (simp only [oneC_int, oneC_bool, oneC_str, oneC_ptr, oneC_sl, oneC_map]; done) | (simp only [List.length_cons, List.length_nil, List.length_set, List.length_map, List.length_replicate, List.length_append, List.length_take, List.length_drop, Int.toNat_natCast] <;> omega) | fail) only [Go.Rx.vi, Go.Rx.vb, Go.Rx.vstr, rxc, rxo, Nat.reduceLeDiff, List.getElem?_cons_zero, List.getElem?_cons_succ, List.length_cons, List.length_nil, List.set_cons_zero, List.set_cons_succ, ↓reduceIte, Bool.not_true, Bool.not_false, true_and, and_true, not_true_eq_false, not_false_eq_true, decide_true, decide_false, Nat.reduceEqDiff, Nat.reduceAdd, Nat.reduceMul, Nat.reducePow, Int.reduceToNat, Int.reducePow, Nat.zero_add, Nat.mul_one, Int.toNat_natCast, R19_5]
  refine blocks_ok hm hO73 hF73 hO46 hF46 (by omega) tv tok fun vf h5 of of_ g5 ff hfl hof hE => ?_
  have n5 := g5.next
  have gA : GrowP h h5 := (g1.trans (g2.trans g3)).p.trans (g4.trans g5)
  have b15 : h5.at h.next = some (.cells (dfaC d.start d.cls vn vr) 34 true) := by rw [g5.at_ _ (by omega) (by omega), g4.at_ _ (by omega) (by omega)]; exact b13
  have b25 : h5.at h1.next = some (.cells (dfaC 0 (List.replicate 256 0) (.slice none 0 0) (.slice none 0 0)) 34 true) := by rw [g5.at_ _ (by omega) (by omega), g4.at_ _ (by omega) (by omega)]; exact b23
  have tv5 := tv.gp g5
  have fr := of_.sl.r
  have ofl := of_.1
  simp only [List.length_map, hfl] at fr
  have hos := hof d.start.toNat (by omega)
  simp (maxSteps := 2000000) (disch := first | omega | assumption | (simp only [oneC_int, oneC_bool, oneC_str, oneC_ptr, oneC_sl, oneC_map]; done) | (simp only [List.length_cons, List.length_nil, List.length_set, List.length_map, List.length_replicate, List.length_append, List.length_take, List.length_drop, Int.toNat_natCast] <;> omega) | fail) only [Go.Rx.vi, Go.Rx.vb, Go.Rx.vstr, rxc, rxo, Nat.reduceLeDiff, List.getElem?_cons_zero, List.getElem?_cons_succ, List.length_cons, List.length_nil, List.set_cons_zero, List.set_cons_succ, ↓reduceIte, Bool.not_true, Bool.not_false, true_and, and_true, not_true_eq_false, not_false_eq_true, decide_true, decide_false, Nat.reduceEqDiff, Nat.reduceAdd, Nat.reduceMul, Nat.reducePow, Int.reduceToNat, Int.reducePow, Nat.zero_add, Nat.mul_one, Int.toNat_natCast, R19_6, fr]
  refine WI_makec (by omega) (by omega) (by omega) (by omega) (by omega) (by decide) fun vm h6 om g6 fm => ?_
  simp only [Int.toNat_natCast, ints_rep] at om
  have n6 := g6.next
  have tv6 := tv5.gp g6
  simp (maxSteps := 2000000) (disch := first | omega | assumption | (simp only [oneC_int, oneC_bool, oneC_str, oneC_ptr, oneC_sl, oneC_map]; done) | (simp only [List.length_cons, List.length_nil, List.length_set, List.length_map, List.length_replicate, List.length_append, List.length_take, List.length_drop, Int.toNat_natCast] <;> omega) | fail) only [Go.Rx.vi, Go.Rx.vb, Go.Rx.vstr, rxc, rxo, Nat.reduceLeDiff, List.getElem?_cons_zero, List.getElem?_cons_succ, List.length_cons, List.length_nil, List.set_cons_zero, List.set_cons_succ, ↓reduceIte, Bool.not_true, Bool.not_false, true_and, and_true, not_true_eq_false, not_false_eq_true, decide_true, decide_false, Nat.reduceEqDiff, Nat.reduceAdd, Nat.reduceMul, Nat.reducePow, Int.reduceToNat, Int.reducePow, Nat.zero_add, Nat.mul_one, Int.toNat_natCast, R19_7, tv6.tab, tabC_259 tv.pl]
  obtain ⟨h7, e7, g7, n7, b7⟩ := boxed h6 [Value.int .i64 d.start] 3
  have oo7 : OwnV h7 3 (.slice (some ⟨h6.next, 0, none⟩) 1 1) ([d.start].map (.int .i64)) := by rw [← e7]; exact own_row (by omega) rfl
  rw [e7]
  have om7 := om.gp g7.p
  have of7 := (of_.gp g6).gp g7.p
  have tv7 := tv6.gp g7.p
  have oml := om.1
  have mr := om7.sl.r
  simp only [List.length_map, List.length_replicate] at mr
  have fr7 := of7.sl.r
  simp only [List.length_map, hfl] at fr7
  simp (maxSteps := 2000000) (disch := first | omega | assumption | (simp only [oneC_int, oneC_bool, oneC_str, oneC_ptr, oneC_sl, oneC_map]; done) | (simp only [List.length_cons, List.length_nil, List.length_set, List.length_map, List.length_replicate, List.length_append, List.length_take, List.length_drop, Int.toNat_natCast] <;> omega) | fail) only [Go.Rx.vi, Go.Rx.vb, Go.Rx.vstr, rxc, rxo, Nat.reduceLeDiff, List.getElem?_cons_zero, List.getElem?_cons_succ, List.length_cons, List.length_nil, List.set_cons_zero, List.set_cons_succ, ↓reduceIte, Bool.not_true, Bool.not_false, true_and, and_true, not_true_eq_false, not_false_eq_true, decide_true, decide_false, Nat.reduceEqDiff, Nat.reduceAdd, Nat.reduceMul, Nat.reducePow, Int.reduceToNat, Int.reducePow, Nat.zero_add, Nat.mul_one, Int.toNat_natCast, R19_8, tv7.tab, tabC_259 tv.pl, fr7, ints_get, mr]
  refine WI_storec om7 (by rw [List.length_map, List.length_replicate]; omega) rfl fun h8 o8 c8 => ?_
  rw [ints_set] at o8
  have n8 := c8.next
  have bf8 : BfsV h8 h5.next (.slice none 0 0) vm (.slice (some ⟨h6.next, 0, none⟩) 1 1) [] [] ((List.replicate d.next.length 0).set (of.getD d.start.toNat 0).toNat 1) [d.start] := by
    have z0 : bno (Value.slice none 0 0) = 0 := rfl
    have z1 : bno (Value.slice (some ⟨h6.next, 0, none⟩) 1 1) = h6.next := rfl
    refine ⟨⟨by rw [z0]; omega, .inl ⟨rfl, rfl⟩⟩, o8, oo7.chg c8 (by rw [z1]; omega), rfl, fun i hi => by simp at hi, ?_, ?_⟩
    · intro i j hi hj hij he
      match i, j, hi, hj with
      | 0, _, _, _ => rfl
      | 1, 0, _, _ => simp only [List.getD_cons_succ, List.getD_cons_zero, z0] at he ⊢; exact he
      | 1, 1, _, _ => omega
      | 1, 2, _, _ => simp only [List.getD_cons_succ, List.getD_cons_zero, z1] at he ⊢; omega
      | 2, 0, _, _ => simp only [List.getD_cons_succ, List.getD_cons_zero, z0] at he ⊢; exact he
      | 2, 1, _, _ => simp only [List.getD_cons_succ, List.getD_cons_zero, z1] at he ⊢; omega
      | 2, 2, _, _ => omega
      | i + 3, _, hi, _ => simp only [List.length_cons, List.length_nil] at hi; omega
      | 1, j + 3, _, hj => simp only [List.length_cons, List.length_nil] at hj; omega
      | 2, j + 3, _, hj => simp only [List.length_cons, List.length_nil] at hj; omega
    · intro i hi
      match i, hi with
      | 0, _ => exact .inl rfl
      | 1, _ => right; show h5.next ≤ bno vm; omega
      | 2, _ => right; show h5.next ≤ h6.next; omega
      | i + 3, hi => simp only [List.length_nil] at hi; omega
  have g58 : GrowP h5 h8 := (g6.trans g7.p).chg c8 (by omega)
  have num8 : NumI of d.next.length ⟨(List.replicate d.next.length 0).set (of.getD d.start.toNat 0).toNat 1, [d.start]⟩ := by
    refine ⟨by simp, fun j hj => ?_, fun c hc => ?_⟩
    · have : j = 0 := by simp at hj; omega
      subst this
      refine ⟨k4, k5, ?_⟩
      rw [getD_set (by rw [List.length_replicate]; omega)]
      simp only [List.getD_cons_zero]
      rw [if_pos trivial]; rfl
    · rw [getD_set (by rw [List.length_replicate]; omega), getD_rep hc]
      simp only [List.length_singleton]
      split <;> omega
  obtain ⟨fin, hfin⟩ : ∃ fin, bstF T of (d.next.length + 1) 0 ⟨(List.replicate d.next.length 0).set (of.getD d.start.toNat 0).toNat 1, [d.start]⟩ [] = fin := ⟨_, rfl⟩
  simp (maxSteps := 2000000) (disch := first | omega | assumption | (simp only [oneC_int, oneC_bool, oneC_str, oneC_ptr, oneC_sl, oneC_map]; done) | (simp only [List.length_cons, List.length_nil, List.length_set, List.length_map, List.length_replicate, List.length_append, List.length_take, List.length_drop, Int.toNat_natCast] <;> omega) | fail) only [Go.Rx.vi, Go.Rx.vb, Go.Rx.vstr, rxc, rxo, Nat.reduceLeDiff, List.getElem?_cons_zero, List.getElem?_cons_succ, List.length_cons, List.length_nil, List.set_cons_zero, List.set_cons_succ, ↓reduceIte, Bool.not_true, Bool.not_false, true_and, and_true, not_true_eq_false, not_false_eq_true, decide_true, decide_false, Nat.reduceEqDiff, Nat.reduceAdd, Nat.reduceMul, Nat.reducePow, Int.reduceToNat, Int.reducePow, Nat.zero_add, Nat.mul_one, Int.toNat_natCast, R19_9, R19_10]
  refine WC_bloop 17 (fun m e h' => ∃ (n : Nat) (st : BSt) (rows : List (List Int)) (vw vo : Value) (rs : List Value), m = d.next.length - n ∧ e.g 1 = pB h.next ∧ e.g 2 = pB h1.next ∧ e.g 5 = pB tb ∧ e.g 6 = vf ∧ e.g 7 = vm ∧ e.g 8 = vo ∧ e.g 9 = vw ∧ e.g 10 = .int .i64 n ∧
      BfsV h' h5.next vw vm vo rs rows st.num st.ord ∧ GrowP h5 h' ∧ NumI of d.next.length st ∧ n ≤ st.ord.length ∧ rows.length = n ∧ bstF T of (d.next.length + 1 - n) n st rows = fin ∧
      (∀ i, i < rows.length → (rows.getD i []).length = (repsTo d.cls 256).length) ∧ ∀ i, i < rows.length → ∀ j, j < (repsTo d.cls 256).length → -1 ≤ (rows.getD i []).getD j 0 ∧ (rows.getD i []).getD j 0 < 65536)
    (fun e h' => ∃ (st : BSt) (rows : List (List Int)) (vw vo : Value) (rs : List Value), e.g 1 = pB h.next ∧ e.g 2 = pB h1.next ∧ e.g 5 = pB tb ∧ e.g 8 = vo ∧ e.g 9 = vw ∧
      BfsV h' h5.next vw vm vo rs rows st.num st.ord ∧ GrowP h5 h' ∧ NumI of d.next.length st ∧ rows.length = st.ord.length ∧ (st, rows) = fin ∧
      (∀ i, i < rows.length → (rows.getD i []).length = (repsTo d.cls 256).length) ∧ ∀ i, i < rows.length → ∀ j, j < (repsTo d.cls 256).length → -1 ≤ (rows.getD i []).getD j 0 ∧ (rows.getD i []).getD j 0 < 65536) ?_ ?_ ?_
  · refine ⟨_, 0, _, [], _, _, [], rfl, ?_, ?_, ?_, ?_, ?_, ?_, ?_, ?_, bf8, g58, num8, by simp, rfl, hfin, fun i hi => by simp at hi, fun i hi => by simp at hi⟩
    all_goals simp (maxSteps := 2000000) (disch := first | omega | assumption | (simp only [oneC_int, oneC_bool, oneC_str, oneC_ptr, oneC_sl, oneC_map]; done) | (simp only [List.length_cons, List.length_nil, List.length_set, List.length_map, List.length_replicate, List.length_append, List.length_take, List.length_drop, Int.toNat_natCast] <;> omega) | fail) only [Go.Rx.vi, Go.Rx.vb, Go.Rx.vstr, rxc, rxo, Nat.reduceLeDiff, List.getElem?_cons_zero, List.getElem?_cons_succ, List.length_cons, List.length_nil, List.set_cons_zero, List.set_cons_succ, ↓reduceIte, Bool.not_true, Bool.not_false, true_and, and_true, not_true_eq_false, not_false_eq_true, decide_true, decide_false, Nat.reduceEqDiff, Nat.reduceAdd, Nat.reduceMul, Nat.reducePow, Int.reduceToNat, Int.reducePow, Nat.zero_add, Nat.mul_one, Int.toNat_natCast, n1]
    rfl
  · rintro m e h' ⟨n, st, rows, vw, vo, rs, rfl, e1, e2, e5, e6, e7, e8, e9, e10, bf, gp, num, hn, hrl, hbst, hrw, hre⟩
    have or_ := bf.oo.sl.r
    simp only [List.length_map] at or_
    have hole := num.le hof
    have gn := gp.next
    simp (maxSteps := 2000000) (disch := first | omega | assumption | (simp only [oneC_int, oneC_bool, oneC_str, oneC_ptr, oneC_sl, oneC_map]; done) | (simp only [List.length_cons, List.length_nil, List.length_set, List.length_map, List.length_replicate, List.length_append, List.length_take, List.length_drop, Int.toNat_natCast] <;> omega) | fail) only [Go.Rx.vi, Go.Rx.vb, Go.Rx.vstr, rxc, rxo, Nat.reduceLeDiff, List.getElem?_cons_zero, List.getElem?_cons_succ, List.length_cons, List.length_nil, List.set_cons_zero, List.set_cons_succ, ↓reduceIte, Bool.not_true, Bool.not_false, true_and, and_true, not_true_eq_false, not_false_eq_true, decide_true, decide_false, Nat.reduceEqDiff, Nat.reduceAdd, Nat.reduceMul, Nat.reducePow, Int.reduceToNat, Int.reducePow, Nat.zero_add, Nat.mul_one, Int.toNat_natCast, B19_0, R19_11, e1, e2, e5, e6, e7, e8, e9, e10, or_]
    refine WCond_dec (fun hc => ?_) (fun hc => ?_)
    · obtain ⟨o1, o2, o3⟩ := num.ord n (by omega)
      have tv' := tv5.gp gp
      have yr := tv'.oy.sl.r
      simp only [List.length_map] at yr
      simp (maxSteps := 2000000) (disch := first | omega | assumption | (simp only [oneC_int, oneC_bool, oneC_str, oneC_ptr, oneC_sl, oneC_map]; done) | (simp only [List.length_cons, List.length_nil, List.length_set, List.length_map, List.length_replicate, List.length_append, List.length_take, List.length_drop, Int.toNat_natCast] <;> omega) | fail) only [Go.Rx.vi, Go.Rx.vb, Go.Rx.vstr, rxc, rxo, Nat.reduceLeDiff, List.getElem?_cons_zero, List.getElem?_cons_succ, List.length_cons, List.length_nil, List.set_cons_zero, List.set_cons_succ, ↓reduceIte, Bool.not_true, Bool.not_false, true_and, and_true, not_true_eq_false, not_false_eq_true, decide_true, decide_false, Nat.reduceEqDiff, Nat.reduceAdd, Nat.reduceMul, Nat.reducePow, Int.reduceToNat, Int.reducePow, Nat.zero_add, Nat.mul_one, Int.toNat_natCast, e1, e2, e5, e6, e7, e8, e9, e10, R19_12, tv'.tab, tabC_0, yr]
      refine WI_makec (by omega) (by omega) (by omega) (by omega) (by omega) (by decide) fun u h9 ou g9 fu => ?_
      simp only [Int.toNat_natCast, ints_rep] at ou
      have hu := bf.newer fu
      have bf9 := bf.gp g9
      have gp9 := gp.trans g9
      have n9 := g9.next
      have tv9 := tv5.gp gp9
      have or9 := bf9.oo.sl.r
      have wr9 := tv9.on.sl.r
      have hwl : ws.length = d.next.length := by rw [tv.len]; exact hT
      have rr9 := (tv9.row (st.ord.getD n 0).toNat (by omega)).sl.r
      have hLw := hTw (st.ord.getD n 0).toNat (by omega)
      simp only [List.length_map, hwl, hLw] at or9 wr9 rr9
      have hLe : ∀ x ∈ T.getD (st.ord.getD n 0).toNat [], x < d.next.length := fun x hx => by
        obtain ⟨j, hj, rfl⟩ := mem_getD hx
        exact (hTe _ (by omega) j (by omega)).2
      obtain ⟨full, hfull⟩ : ∃ full, bstR of (T.getD (st.ord.getD n 0).toNat []) st = full := ⟨_, rfl⟩
      have hfl2 : full.2.length = (repsTo d.cls 256).length := by rw [← hfull, bstR_len]; exact hLw
      simp (maxSteps := 2000000) (disch := first | omega | assumption | (simp only [oneC_int, oneC_bool, oneC_str, oneC_ptr, oneC_sl, oneC_map]; done) | (simp only [List.length_cons, List.length_nil, List.length_set, List.length_map, List.length_replicate, List.length_append, List.length_take, List.length_drop, Int.toNat_natCast] <;> omega) | fail) only [Go.Rx.vi, Go.Rx.vb, Go.Rx.vstr, rxc, rxo, Nat.reduceLeDiff, List.getElem?_cons_zero, List.getElem?_cons_succ, List.length_cons, List.length_nil, List.set_cons_zero, List.set_cons_succ, ↓reduceIte, Bool.not_true, Bool.not_false, true_and, and_true, not_true_eq_false, not_false_eq_true, decide_true, decide_false, Nat.reduceEqDiff, Nat.reduceAdd, Nat.reduceMul, Nat.reducePow, Int.reduceToNat, Int.reducePow, Nat.zero_add, Nat.mul_one, Int.toNat_natCast, e1, e2, e5, e6, e7, e8, e9, e10]
      refine WC_regd0 hm ?_
      simp (maxSteps := 2000000) (disch := first | omega | assumption | (simp only [oneC_int, oneC_bool, oneC_str, oneC_ptr, oneC_sl, oneC_map]; done) | (simp only [List.length_cons, List.length_nil, List.length_set, List.length_map, List.length_replicate, List.length_append, List.length_take, List.length_drop, Int.toNat_natCast] <;> omega) | fail) only [Go.Rx.vi, Go.Rx.vb, Go.Rx.vstr, rxc, rxo, Nat.reduceLeDiff, List.getElem?_cons_zero, List.getElem?_cons_succ, List.length_cons, List.length_nil, List.set_cons_zero, List.set_cons_succ, ↓reduceIte, Bool.not_true, Bool.not_false, true_and, and_true, not_true_eq_false, not_false_eq_true, decide_true, decide_false, Nat.reduceEqDiff, Nat.reduceAdd, Nat.reduceMul, Nat.reducePow, Int.reduceToNat, Int.reducePow, Nat.zero_add, Nat.mul_one, Int.toNat_natCast, R19_13, e1, e2, e5, e6, e7, e8, e9, e10, tv9.tab, tabC_257 tv.pl, or9, ints_get, wr9, vals_get (l := ws), rr9]
      refine WC_bloop 17 (fun m e hh => ∃ (j : Nat) (st' : BSt) (r : List Int) (vo : Value), m = (repsTo d.cls 256).length - j ∧ j ≤ (repsTo d.cls 256).length ∧ e.g 1 = pB h.next ∧ e.g 2 = pB h1.next ∧ e.g 5 = pB tb ∧ e.g 6 = vf ∧ e.g 7 = vm ∧ e.g 8 = vo ∧ e.g 9 = vw ∧ e.g 10 = .int .i64 n ∧ e.g 11 = u ∧
          e.g 65 = ws.getD (st.ord.getD n 0).toNat undef ∧ e.g 66 = .int .i64 (repsTo d.cls 256).length ∧ e.g 67 = .int .i64 j ∧
          BfsV hh h5.next vw vm vo rs rows st'.num st'.ord ∧ GrowP h5 hh ∧ h9.next ≤ hh.next ∧ NumI of d.next.length st' ∧ st.ord.length ≤ st'.ord.length ∧ (bstR of ((T.getD (st.ord.getD n 0).toNat []).drop j) st').1 = full.1 ∧ (bstR of ((T.getD (st.ord.getD n 0).toNat []).drop j) st').2 = full.2.drop j ∧
          OwnV hh 3 u (r.map (.int .i64)) ∧ r.length = (repsTo d.cls 256).length ∧ (∀ j' : Nat, j' < j → r.getD j' 0 = full.2.getD j' 0) ∧ ∀ i : Nat, i < rs.length + 3 → bno ((vw :: vm :: vo :: rs).getD i undef) = 0 ∨ bno ((vw :: vm :: vo :: rs).getD i undef) ≠ bno u)
        (fun e hh => ∃ (st' : BSt) (r : List Int) (vo : Value), e.g 1 = pB h.next ∧ e.g 2 = pB h1.next ∧ e.g 5 = pB tb ∧ e.g 6 = vf ∧ e.g 7 = vm ∧ e.g 8 = vo ∧ e.g 9 = vw ∧ e.g 10 = .int .i64 n ∧ e.g 11 = u ∧
          BfsV hh h5.next vw vm vo rs rows st'.num st'.ord ∧ GrowP h5 hh ∧ NumI of d.next.length st' ∧ st.ord.length ≤ st'.ord.length ∧ st' = full.1 ∧ r = full.2 ∧ OwnV hh 3 u (r.map (.int .i64)) ∧ ∀ i : Nat, i < rs.length + 3 → bno ((vw :: vm :: vo :: rs).getD i undef) = 0 ∨ bno ((vw :: vm :: vo :: rs).getD i undef) ≠ bno u) ?_ ?_ ?_
      · refine ⟨_, 0, st, List.replicate (repsTo d.cls 256).length 0, vo, rfl, by omega, ?_, ?_, ?_, ?_, ?_, ?_, ?_, ?_, ?_, ?_, ?_, ?_, bf9, gp9, Nat.le_refl _, num, Nat.le_refl _, by rw [List.drop_zero, hfull], by rw [List.drop_zero, List.drop_zero, hfull], ou, by simp, fun j' hj' => by omega, hu⟩
        all_goals simp (maxSteps := 2000000) (disch := first | omega | assumption | (simp only [oneC_int, oneC_bool, oneC_str, oneC_ptr, oneC_sl, oneC_map]; done) | (simp only [List.length_cons, List.length_nil, List.length_set, List.length_map, List.length_replicate, List.length_append, List.length_take, List.length_drop, Int.toNat_natCast] <;> omega) | fail) only [Go.Rx.vi, Go.Rx.vb, Go.Rx.vstr, rxc, rxo, Nat.reduceLeDiff, List.getElem?_cons_zero, List.getElem?_cons_succ, List.length_cons, List.length_nil, List.set_cons_zero, List.set_cons_succ, ↓reduceIte, Bool.not_true, Bool.not_false, true_and, and_true, not_true_eq_false, not_false_eq_true, decide_true, decide_false, Nat.reduceEqDiff, Nat.reduceAdd, Nat.reduceMul, Nat.reducePow, Int.reduceToNat, Int.reducePow, Nat.zero_add, Nat.mul_one, Int.toNat_natCast, e1, e2, e5, e6, e7, e8, e9, e10]
        rfl
      · rintro m e hh ⟨j, st', r, vo, rfl, hj, e1, e2, e5, e6, e7, e8, e9, e10, e11, e65, e66, e67, bf, gp, hnx, num', hol, hb1, hb2, ou, hrl', hrs, hu⟩
        simp (maxSteps := 2000000) (disch := first | omega | assumption | (simp only [oneC_int, oneC_bool, oneC_str, oneC_ptr, oneC_sl, oneC_map]; done) | (simp only [List.length_cons, List.length_nil, List.length_set, List.length_map, List.length_replicate, List.length_append, List.length_take, List.length_drop, Int.toNat_natCast] <;> omega) | fail) only [Go.Rx.vi, Go.Rx.vb, Go.Rx.vstr, rxc, rxo, Nat.reduceLeDiff, List.getElem?_cons_zero, List.getElem?_cons_succ, List.length_cons, List.length_nil, List.set_cons_zero, List.set_cons_succ, ↓reduceIte, Bool.not_true, Bool.not_false, true_and, and_true, not_true_eq_false, not_false_eq_true, decide_true, decide_false, Nat.reduceEqDiff, Nat.reduceAdd, Nat.reduceMul, Nat.reducePow, Int.reduceToNat, Int.reducePow, Nat.zero_add, Nat.mul_one, Int.toNat_natCast, B19_1, R19_14, e1, e2, e5, e6, e7, e8, e9, e10, e11, e65, e66, e67]
        refine WCond_dec (fun hc2 => ?_) (fun hc2 => ?_)
        · have tvh := tv5.gp gp
          have rr := (tvh.row (st.ord.getD n 0).toNat (by omega)).sl.r
          have fr := (of_.gp gp).sl.r
          have mr := bf.om.sl.r
          have ur := ou.sl.r
          have or' := bf.oo.sl.r
          have hnl := num'.len
          have hole' := num'.le hof
          simp only [List.length_map, hLw, hfl, hnl, hrl'] at rr fr mr ur or'
          have gnh := gp.next
          have hte := hTe (st.ord.getD n 0).toNat (by omega) j (by omega)
          rw [drop_cons (by omega), drop_cons (l := full.2) (by omega)] at hb2
          rw [drop_cons (by omega)] at hb1
          simp only [bstR, List.cons.injEq] at hb1 hb2
          have num'' := num'.step hof hte.2
          have upd : ∀ w : Int, (bst1 of st' ((T.getD (st.ord.getD n 0).toNat []).getD j 0)).2 = w → ∀ j' : Nat, j' < j + 1 → (r.set j w).getD j' 0 = full.2.getD j' 0 := fun w hw j' hj' => by
            rw [getD_set (by omega)]
            by_cases e : j = j'
            · subst e; rw [if_pos rfl, ← hb2.1, hw]
            · rw [if_neg e]; exact hrs j' (by omega)
          simp (maxSteps := 2000000) (disch := first | omega | assumption | (simp only [oneC_int, oneC_bool, oneC_str, oneC_ptr, oneC_sl, oneC_map]; done) | (simp only [List.length_cons, List.length_nil, List.length_set, List.length_map, List.length_replicate, List.length_append, List.length_take, List.length_drop, Int.toNat_natCast] <;> omega) | fail) only [Go.Rx.vi, Go.Rx.vb, Go.Rx.vstr, rxc, rxo, Nat.reduceLeDiff, List.getElem?_cons_zero, List.getElem?_cons_succ, List.length_cons, List.length_nil, List.set_cons_zero, List.set_cons_succ, ↓reduceIte, Bool.not_true, Bool.not_false, true_and, and_true, not_true_eq_false, not_false_eq_true, decide_true, decide_false, Nat.reduceEqDiff, Nat.reduceAdd, Nat.reduceMul, Nat.reducePow, Int.reduceToNat, Int.reducePow, Nat.zero_add, Nat.mul_one, Int.toNat_natCast, R19_15, e1, e2, e5, e6, e7, e8, e9, e10, e11, e65, e66, e67, rr, ints_get, R19_16]
          refine WCond_dec (fun hx0 => ?_) (fun hx0 => ?_)
          · have hb : bst1 of st' ((T.getD (st.ord.getD n 0).toNat []).getD j 0) = (st', -1) := by unfold bst1; rw [if_pos hx0]
            rw [hb] at hb1 hb2 upd
            simp (maxSteps := 2000000) (disch := first | omega | assumption | (simp only [oneC_int, oneC_bool, oneC_str, oneC_ptr, oneC_sl, oneC_map]; done) | (simp only [List.length_cons, List.length_nil, List.length_set, List.length_map, List.length_replicate, List.length_append, List.length_take, List.length_drop, Int.toNat_natCast] <;> omega) | fail) only [Go.Rx.vi, Go.Rx.vb, Go.Rx.vstr, rxc, rxo, Nat.reduceLeDiff, List.getElem?_cons_zero, List.getElem?_cons_succ, List.length_cons, List.length_nil, List.set_cons_zero, List.set_cons_succ, ↓reduceIte, Bool.not_true, Bool.not_false, true_and, and_true, not_true_eq_false, not_false_eq_true, decide_true, decide_false, Nat.reduceEqDiff, Nat.reduceAdd, Nat.reduceMul, Nat.reducePow, Int.reduceToNat, Int.reducePow, Nat.zero_add, Nat.mul_one, Int.toNat_natCast, R19_17, e1, e2, e5, e6, e7, e8, e9, e10, e11, e65, e66, e67, ur]
            refine WI_storec ou (by rw [List.length_map]; omega) rfl fun hx ox cx => ?_
            rw [ints_set] at ox
            simp (maxSteps := 2000000) (disch := first | omega | assumption | (simp only [oneC_int, oneC_bool, oneC_str, oneC_ptr, oneC_sl, oneC_map]; done) | (simp only [List.length_cons, List.length_nil, List.length_set, List.length_map, List.length_replicate, List.length_append, List.length_take, List.length_drop, Int.toNat_natCast] <;> omega) | fail) only [Go.Rx.vi, Go.Rx.vb, Go.Rx.vstr, rxc, rxo, Nat.reduceLeDiff, List.getElem?_cons_zero, List.getElem?_cons_succ, List.length_cons, List.length_nil, List.set_cons_zero, List.set_cons_succ, ↓reduceIte, Bool.not_true, Bool.not_false, true_and, and_true, not_true_eq_false, not_false_eq_true, decide_true, decide_false, Nat.reduceEqDiff, Nat.reduceAdd, Nat.reduceMul, Nat.reducePow, Int.reduceToNat, Int.reducePow, Nat.zero_add, Nat.mul_one, Int.toNat_natCast, e1, e2, e5, e6, e7, e8, e9, e10, e11, e65, e66, e67, R19_22]
            exact ⟨_, by omega, j + 1, st', _, vo, rfl, by omega, rfl, by simp, bf.other cx hu, gp.chg cx (by omega), by have := cx.next; omega, num', hol, hb1, hb2.2, ox, by simp [hrl'], upd _ rfl, hu⟩
          · have hbo := hof ((T.getD (st.ord.getD n 0).toNat []).getD j 0).toNat (by omega)
            simp (maxSteps := 2000000) (disch := first | omega | assumption | (simp only [oneC_int, oneC_bool, oneC_str, oneC_ptr, oneC_sl, oneC_map]; done) | (simp only [List.length_cons, List.length_nil, List.length_set, List.length_map, List.length_replicate, List.length_append, List.length_take, List.length_drop, Int.toNat_natCast] <;> omega) | fail) only [Go.Rx.vi, Go.Rx.vb, Go.Rx.vstr, rxc, rxo, Nat.reduceLeDiff, List.getElem?_cons_zero, List.getElem?_cons_succ, List.length_cons, List.length_nil, List.set_cons_zero, List.set_cons_succ, ↓reduceIte, Bool.not_true, Bool.not_false, true_and, and_true, not_true_eq_false, not_false_eq_true, decide_true, decide_false, Nat.reduceEqDiff, Nat.reduceAdd, Nat.reduceMul, Nat.reducePow, Int.reduceToNat, Int.reducePow, Nat.zero_add, Nat.mul_one, Int.toNat_natCast, e1, e2, e5, e6, e7, e8, e9, e10, e11, e65, e66, e67, R19_18, fr, ints_get, mr]
            refine WCond_dec (fun hz => ?_) (fun hz => ?_)
            · have hb : bst1 of st' ((T.getD (st.ord.getD n 0).toNat []).getD j 0) = (⟨st'.num.set (of.getD ((T.getD (st.ord.getD n 0).toNat []).getD j 0).toNat 0).toNat (st'.ord.length + 1), st'.ord ++ [(T.getD (st.ord.getD n 0).toNat []).getD j 0]⟩, (st'.ord.length : Int)) := by unfold bst1; rw [if_neg hx0, if_pos hz]
              rw [hb] at hb1 hb2 upd num''
              have hole2 := num''.le hof
              simp only [List.length_append, List.length_singleton] at hole2
              simp (maxSteps := 2000000) (disch := first | omega | assumption | (simp only [oneC_int, oneC_bool, oneC_str, oneC_ptr, oneC_sl, oneC_map]; done) | (simp only [List.length_cons, List.length_nil, List.length_set, List.length_map, List.length_replicate, List.length_append, List.length_take, List.length_drop, Int.toNat_natCast] <;> omega) | fail) only [Go.Rx.vi, Go.Rx.vb, Go.Rx.vstr, rxc, rxo, Nat.reduceLeDiff, List.getElem?_cons_zero, List.getElem?_cons_succ, List.length_cons, List.length_nil, List.set_cons_zero, List.set_cons_succ, ↓reduceIte, Bool.not_true, Bool.not_false, true_and, and_true, not_true_eq_false, not_false_eq_true, decide_true, decide_false, Nat.reduceEqDiff, Nat.reduceAdd, Nat.reduceMul, Nat.reducePow, Int.reduceToNat, Int.reducePow, Nat.zero_add, Nat.mul_one, Int.toNat_natCast, R19_19, e1, e2, e5, e6, e7, e8, e9, e10, e11, e65, e66, e67]
              refine WI_app1c (by omega) bf.oo rfl (by rw [List.length_map]; omega) fun vo' hx ox cx fx => ?_
              rw [ints_app] at ox
              have fro := bf.fresh 2 (by omega)
              simp only [List.getD_cons_succ, List.getD_cons_zero] at fro
              have hu2 := hu 2 (by omega)
              simp only [List.getD_cons_succ, List.getD_cons_zero] at hu2
              have bfx := bf.push (by omega) ox cx fx
              have gpx := gp.chg cx fro
              have oul := ou.1
              have oux := ou.chg cx (by omega)
              have nx := cx.next
              have frx := (of_.gp gpx).sl.r
              have mrx := bfx.om.sl.r
              have orx := bfx.oo.sl.r
              have urx := oux.sl.r
              simp only [List.length_map, hfl, hnl, hrl', List.length_append, List.length_singleton] at frx mrx orx urx
              simp (maxSteps := 2000000) (disch := first | omega | assumption | (simp only [oneC_int, oneC_bool, oneC_str, oneC_ptr, oneC_sl, oneC_map]; done) | (simp only [List.length_cons, List.length_nil, List.length_set, List.length_map, List.length_replicate, List.length_append, List.length_take, List.length_drop, Int.toNat_natCast] <;> omega) | fail) only [Go.Rx.vi, Go.Rx.vb, Go.Rx.vstr, rxc, rxo, Nat.reduceLeDiff, List.getElem?_cons_zero, List.getElem?_cons_succ, List.length_cons, List.length_nil, List.set_cons_zero, List.set_cons_succ, ↓reduceIte, Bool.not_true, Bool.not_false, true_and, and_true, not_true_eq_false, not_false_eq_true, decide_true, decide_false, Nat.reduceEqDiff, Nat.reduceAdd, Nat.reduceMul, Nat.reducePow, Int.reduceToNat, Int.reducePow, Nat.zero_add, Nat.mul_one, Int.toNat_natCast, e1, e2, e5, e6, e7, e8, e9, e10, e11, e65, e66, e67, R19_20, frx, ints_get, mrx, orx]
              refine WI_storec bfx.om (by rw [List.length_map]; omega) rfl fun hy oy cy => ?_
              rw [ints_set] at oy
              have bfy := bfx.setNum oy cy
              have frm := bfx.fresh 1 (by omega)
              simp only [List.getD_cons_succ, List.getD_cons_zero] at frm
              have gpy := gpx.chg cy frm
              have hu1 := hu 1 (by omega)
              simp only [List.getD_cons_succ, List.getD_cons_zero] at hu1
              have ouy := oux.chg cy (by omega)
              have fry := (of_.gp gpy).sl.r
              have mry := bfy.om.sl.r
              have ury := ouy.sl.r
              simp only [List.length_map, List.length_set, hfl, hnl, hrl'] at fry mry ury
              have hget : (st'.num.set (of.getD ((T.getD (st.ord.getD n 0).toNat []).getD j 0).toNat 0).toNat ((st'.ord.length : Nat) + 1 : Int)).getD (of.getD ((T.getD (st.ord.getD n 0).toNat []).getD j 0).toNat 0).toNat 0 = st'.ord.length + 1 := by rw [getD_set (by omega), if_pos rfl]
              have hpush : ((st'.ord.length + 1 : Nat) : Int) = st'.ord.length + 1 := by omega
              simp only [hpush] at oy bfy
              have hnl2 : (st'.num.set (of.getD ((T.getD (st.ord.getD n 0).toNat []).getD j 0).toNat 0).toNat ((st'.ord.length : Nat) + 1 : Int)).length = d.next.length := by simp [hnl]
              have mry := bfy.om.sl.r
              simp only [List.length_map, hnl2] at mry
              have hgi := ints_get (l := st'.num.set (of.getD ((T.getD (st.ord.getD n 0).toNat []).getD j 0).toNat 0).toNat ((st'.ord.length : Nat) + 1 : Int)) (k := .i64) (i := (of.getD ((T.getD (st.ord.getD n 0).toNat []).getD j 0).toNat 0).toNat) (by omega)
              rw [hget] at hgi
              simp (maxSteps := 2000000) (disch := first | omega | assumption | (simp only [oneC_int, oneC_bool, oneC_str, oneC_ptr, oneC_sl, oneC_map]; done) | (simp only [List.length_cons, List.length_nil, List.length_set, List.length_map, List.length_replicate, List.length_append, List.length_take, List.length_drop, Int.toNat_natCast] <;> omega) | fail) only [Go.Rx.vi, Go.Rx.vb, Go.Rx.vstr, rxc, rxo, Nat.reduceLeDiff, List.getElem?_cons_zero, List.getElem?_cons_succ, List.length_cons, List.length_nil, List.set_cons_zero, List.set_cons_succ, ↓reduceIte, Bool.not_true, Bool.not_false, true_and, and_true, not_true_eq_false, not_false_eq_true, decide_true, decide_false, Nat.reduceEqDiff, Nat.reduceAdd, Nat.reduceMul, Nat.reducePow, Int.reduceToNat, Int.reducePow, Nat.zero_add, Nat.mul_one, Int.toNat_natCast, e1, e2, e5, e6, e7, e8, e9, e10, e11, e65, e66, e67, R19_21, fry, ints_get (l := of), mry, hgi, ury]
              refine WI_storec ouy (by rw [List.length_map]; omega) rfl fun hw ow cw => ?_
              rw [ints_set] at ow
              have huy : ∀ i : Nat, i < rs.length + 3 → bno ((vw :: vm :: vo' :: rs).getD i undef) = 0 ∨ bno ((vw :: vm :: vo' :: rs).getD i undef) ≠ bno u := fun i hi => by
                have q := hu i hi
                match i with
                | 0 => exact q
                | 1 => exact q
                | 2 =>
                  show bno vo' = 0 ∨ bno vo' ≠ bno u
                  omega
                | i + 3 => exact q
              simp (maxSteps := 2000000) (disch := first | omega | assumption | (simp only [oneC_int, oneC_bool, oneC_str, oneC_ptr, oneC_sl, oneC_map]; done) | (simp only [List.length_cons, List.length_nil, List.length_set, List.length_map, List.length_replicate, List.length_append, List.length_take, List.length_drop, Int.toNat_natCast] <;> omega) | fail) only [Go.Rx.vi, Go.Rx.vb, Go.Rx.vstr, rxc, rxo, Nat.reduceLeDiff, List.getElem?_cons_zero, List.getElem?_cons_succ, List.length_cons, List.length_nil, List.set_cons_zero, List.set_cons_succ, ↓reduceIte, Bool.not_true, Bool.not_false, true_and, and_true, not_true_eq_false, not_false_eq_true, decide_true, decide_false, Nat.reduceEqDiff, Nat.reduceAdd, Nat.reduceMul, Nat.reducePow, Int.reduceToNat, Int.reducePow, Nat.zero_add, Nat.mul_one, Int.toNat_natCast, e1, e2, e5, e6, e7, e8, e9, e10, e11, e65, e66, e67, R19_22]
              refine ⟨_, by omega, j + 1, _, _, vo', rfl, by omega, rfl, by simp, bfy.other cw huy, gpy.chg cw (by omega), by have := cy.next; have := cw.next; omega, num'', by simp only [List.length_append]; omega, hb1, hb2.2, ow, by simp [hrl'], upd _ (by omega), huy⟩
            · have hb : bst1 of st' ((T.getD (st.ord.getD n 0).toNat []).getD j 0) = (st', st'.num.getD (of.getD ((T.getD (st.ord.getD n 0).toNat []).getD j 0).toNat 0).toNat 0 - 1) := by unfold bst1; rw [if_neg hx0, if_neg hz]
              rw [hb] at hb1 hb2 upd
              have hnv := num'.num (of.getD ((T.getD (st.ord.getD n 0).toNat []).getD j 0).toNat 0).toNat (by omega)
              simp (maxSteps := 2000000) (disch := first | omega | assumption | (simp only [oneC_int, oneC_bool, oneC_str, oneC_ptr, oneC_sl, oneC_map]; done) | (simp only [List.length_cons, List.length_nil, List.length_set, List.length_map, List.length_replicate, List.length_append, List.length_take, List.length_drop, Int.toNat_natCast] <;> omega) | fail) only [Go.Rx.vi, Go.Rx.vb, Go.Rx.vstr, rxc, rxo, Nat.reduceLeDiff, List.getElem?_cons_zero, List.getElem?_cons_succ, List.length_cons, List.length_nil, List.set_cons_zero, List.set_cons_succ, ↓reduceIte, Bool.not_true, Bool.not_false, true_and, and_true, not_true_eq_false, not_false_eq_true, decide_true, decide_false, Nat.reduceEqDiff, Nat.reduceAdd, Nat.reduceMul, Nat.reducePow, Int.reduceToNat, Int.reducePow, Nat.zero_add, Nat.mul_one, Int.toNat_natCast, e1, e2, e5, e6, e7, e8, e9, e10, e11, e65, e66, e67, R19_21, fr, ints_get, mr, ur]
              refine WI_storec ou (by rw [List.length_map]; omega) rfl fun hx ox cx => ?_
              rw [ints_set] at ox
              simp (maxSteps := 2000000) (disch := first | omega | assumption | (simp only [oneC_int, oneC_bool, oneC_str, oneC_ptr, oneC_sl, oneC_map]; done) | (simp only [List.length_cons, List.length_nil, List.length_set, List.length_map, List.length_replicate, List.length_append, List.length_take, List.length_drop, Int.toNat_natCast] <;> omega) | fail) only [Go.Rx.vi, Go.Rx.vb, Go.Rx.vstr, rxc, rxo, Nat.reduceLeDiff, List.getElem?_cons_zero, List.getElem?_cons_succ, List.length_cons, List.length_nil, List.set_cons_zero, List.set_cons_succ, ↓reduceIte, Bool.not_true, Bool.not_false, true_and, and_true, not_true_eq_false, not_false_eq_true, decide_true, decide_false, Nat.reduceEqDiff, Nat.reduceAdd, Nat.reduceMul, Nat.reducePow, Int.reduceToNat, Int.reducePow, Nat.zero_add, Nat.mul_one, Int.toNat_natCast, e1, e2, e5, e6, e7, e8, e9, e10, e11, e65, e66, e67, R19_22]
              exact ⟨_, by omega, j + 1, st', _, vo, rfl, by omega, rfl, by simp, bf.other cx hu, gp.chg cx (by omega), by have := cx.next; omega, num', hol, hb1, hb2.2, ox, by simp [hrl'], upd _ rfl, hu⟩
        · have hjn : j = (repsTo d.cls 256).length := by omega
          rw [hjn, List.drop_of_length_le (by omega)] at hb1
          simp (maxSteps := 2000000) (disch := first | omega | assumption | (simp only [oneC_int, oneC_bool, oneC_str, oneC_ptr, oneC_sl, oneC_map]; done) | (simp only [List.length_cons, List.length_nil, List.length_set, List.length_map, List.length_replicate, List.length_append, List.length_take, List.length_drop, Int.toNat_natCast] <;> omega) | fail) only [Go.Rx.vi, Go.Rx.vb, Go.Rx.vstr, rxc, rxo, Nat.reduceLeDiff, List.getElem?_cons_zero, List.getElem?_cons_succ, List.length_cons, List.length_nil, List.set_cons_zero, List.set_cons_succ, ↓reduceIte, Bool.not_true, Bool.not_false, true_and, and_true, not_true_eq_false, not_false_eq_true, decide_true, decide_false, Nat.reduceEqDiff, Nat.reduceAdd, Nat.reduceMul, Nat.reducePow, Int.reduceToNat, Int.reducePow, Nat.zero_add, Nat.mul_one, Int.toNat_natCast, e1, e2, e5, e6, e7, e8, e9, e10, e11]
          refine ⟨st', r, vo, rfl, bf, gp, num', hol, hb1, ?_, ou, hu⟩
          exact ext_getD 0 (by omega) fun j' hj' => hrs j' (by omega)
      · rintro e hh ⟨st', r, vo, e1, e2, e5, e6, e7, e8, e9, e10, e11, bf, gp, num', hol, rfl, rfl, ou, hu⟩
        have gnh := gp.next
        have hbl2 : (repsTo d.cls 256).length ≤ 256 := repsTo_le _ _
        have hle2 := num'.le hof
        have hrsl := bf.len
        simp (maxSteps := 2000000) (disch := first | omega | assumption | (simp only [oneC_int, oneC_bool, oneC_str, oneC_ptr, oneC_sl, oneC_map]; done) | (simp only [List.length_cons, List.length_nil, List.length_set, List.length_map, List.length_replicate, List.length_append, List.length_take, List.length_drop, Int.toNat_natCast] <;> omega) | fail) only [Go.Rx.vi, Go.Rx.vb, Go.Rx.vstr, rxc, rxo, Nat.reduceLeDiff, List.getElem?_cons_zero, List.getElem?_cons_succ, List.length_cons, List.length_nil, List.set_cons_zero, List.set_cons_succ, ↓reduceIte, Bool.not_true, Bool.not_false, true_and, and_true, not_true_eq_false, not_false_eq_true, decide_true, decide_false, Nat.reduceEqDiff, Nat.reduceAdd, Nat.reduceMul, Nat.reducePow, Int.reduceToNat, Int.reducePow, Nat.zero_add, Nat.mul_one, Int.toNat_natCast, e1, e2, e5, e6, e7, e8, e9, e10, e11, R19_23, cellsN_one ou.sl.oneC]
        refine WI_app1c (by omega) bf.on ou.sl.isSl (by omega) fun vw' hx ox cx fx => ?_
        have fro := bf.fresh 0 (by omega)
        simp only [List.getD_cons_zero] at fro
        have bfx := bf.addRow (by omega) ou hu (by omega) ox cx fx
        simp (maxSteps := 2000000) (disch := first | omega | assumption | (simp only [oneC_int, oneC_bool, oneC_str, oneC_ptr, oneC_sl, oneC_map]; done) | (simp only [List.length_cons, List.length_nil, List.length_set, List.length_map, List.length_replicate, List.length_append, List.length_take, List.length_drop, Int.toNat_natCast] <;> omega) | fail) only [Go.Rx.vi, Go.Rx.vb, Go.Rx.vstr, rxc, rxo, Nat.reduceLeDiff, List.getElem?_cons_zero, List.getElem?_cons_succ, List.length_cons, List.length_nil, List.set_cons_zero, List.set_cons_succ, ↓reduceIte, Bool.not_true, Bool.not_false, true_and, and_true, not_true_eq_false, not_false_eq_true, decide_true, decide_false, Nat.reduceEqDiff, Nat.reduceAdd, Nat.reduceMul, Nat.reducePow, Int.reduceToNat, Int.reducePow, Nat.zero_add, Nat.mul_one, Int.toNat_natCast, e1, e2, e5, e6, e7, e8, e9, e10, e11, R19_24]
        have hdn : d.next.length + 1 - n = (d.next.length - n) + 1 := by omega
        rw [hdn] at hbst
        simp only [bstF] at hbst
        rw [if_pos (by omega), hfull] at hbst
        have hdn2 : d.next.length - n = d.next.length + 1 - (n + 1) := by omega
        rw [hdn2] at hbst
        refine ⟨_, by omega, n + 1, full.1, _, vw', vo, _, rfl, rfl, rfl, by simp, bfx, gp.chg cx fro, num', by omega, by simp [hrl], hbst, fun i hi => ?_, fun i hi j hj => ?_⟩
        · rw [List.length_append, List.length_singleton] at hi
          rw [getD_app]
          by_cases hi2 : i < rows.length
          · rw [if_pos hi2]; exact hrw i hi2
          · rw [if_neg hi2, if_pos (by omega)]; exact hfl2
        · rw [List.length_append, List.length_singleton] at hi
          rw [getD_app]
          by_cases hi2 : i < rows.length
          · rw [if_pos hi2]; exact hre i hi2 j hj
          · rw [if_neg hi2, if_pos (by omega)]
            have := bstR_val hof num hLe (full.2.getD j 0) (by rw [hfull]; exact getD_mem (by omega))
            omega
    · rw [bstF_end (by omega)] at hbst
      have hnn : n = st.ord.length := by omega
      simp (maxSteps := 2000000) (disch := first | omega | assumption | (simp only [oneC_int, oneC_bool, oneC_str, oneC_ptr, oneC_sl, oneC_map]; done) | (simp only [List.length_cons, List.length_nil, List.length_set, List.length_map, List.length_replicate, List.length_append, List.length_take, List.length_drop, Int.toNat_natCast] <;> omega) | fail) only [Go.Rx.vi, Go.Rx.vb, Go.Rx.vstr, rxc, rxo, Nat.reduceLeDiff, List.getElem?_cons_zero, List.getElem?_cons_succ, List.length_cons, List.length_nil, List.set_cons_zero, List.set_cons_succ, ↓reduceIte, Bool.not_true, Bool.not_false, true_and, and_true, not_true_eq_false, not_false_eq_true, decide_true, decide_false, Nat.reduceEqDiff, Nat.reduceAdd, Nat.reduceMul, Nat.reducePow, Int.reduceToNat, Int.reducePow, Nat.zero_add, Nat.mul_one, Int.toNat_natCast, e1, e2, e5, e8, e9]
      exact ⟨st, rows, vw, vo, rs, rfl, rfl, bf, gp, num, by omega, hbst, hrw, hre⟩
  · rintro e h' ⟨st, rows, vw, vo, rs, e1, e2, e5, e8, e9, bf, gp, num, hrl, hst, hrw, hre⟩
    have gn := gp.next
    have hle := num.le hof
    have gAh := gA.trans gp
    have b1h : h'.at h.next = some (.cells (dfaC d.start d.cls vn vr) 34 true) := by rw [gp.at_ _ (by omega) (by omega)]; exact b15
    have b2h : h'.at h1.next = some (.cells (dfaC 0 (List.replicate 256 0) (.slice none 0 0) (.slice none 0 0)) 34 true) := by rw [gp.at_ _ (by omega) (by omega)]; exact b25
    have z259 : (dfaC 0 (List.replicate 256 0) (.slice none 0 0) (.slice none 0 0)).length = 259 := dfaC_len (by simp)
    have zone : allOne (dfaC 0 (List.replicate 256 0) (.slice none 0 0) (.slice none 0 0)) = true := allOne_dfaC rfl rfl
    have zne : dfaC 0 (List.replicate 256 0) (.slice none 0 0) (.slice none 0 0) ≠ [] := fun e => by rw [e] at z259; simp at z259
    obtain ⟨pl0, epl⟩ : ∃ pl0 : List Int, List.replicate 256 0 = pl0 := ⟨_, rfl⟩
    have hpl0 : pl0.length = 256 := by rw [← epl]; simp
    rw [epl] at z259 zone zne
    simp (maxSteps := 2000000) (disch := first | omega | assumption | (simp only [oneC_int, oneC_bool, oneC_str, oneC_ptr, oneC_sl, oneC_map]; done) | (simp only [List.length_cons, List.length_nil, List.length_set, List.length_map, List.length_replicate, List.length_append, List.length_take, List.length_drop, Int.toNat_natCast] <;> omega) | fail) only [Go.Rx.vi, Go.Rx.vb, Go.Rx.vstr, rxc, rxo, Nat.reduceLeDiff, List.getElem?_cons_zero, List.getElem?_cons_succ, List.length_cons, List.length_nil, List.set_cons_zero, List.set_cons_succ, ↓reduceIte, Bool.not_true, Bool.not_false, true_and, and_true, not_true_eq_false, not_false_eq_true, decide_true, decide_false, Nat.reduceEqDiff, Nat.reduceAdd, Nat.reduceMul, Nat.reducePow, Int.reduceToNat, Int.reducePow, Nat.zero_add, Nat.mul_one, Int.toNat_natCast, e1, e2, e5, e8, e9, R19_25, dfa0, epl, z259, stM_full zone zne rfl]
    obtain ⟨hb, ehb, gb, nb, bb⟩ := boxed h' (dfaC 0 pl0 (.slice none 0 0) (.slice none 0 0)) 34
    rw [ehb]
    have cb : Chg h'.next hb (hb.set h'.next (some (.cells (dfaC 0 pl0 (.slice none 0 0) (.slice none 0 0)) 34 true))) := Chg.set
    have bb2 : (hb.set h'.next (some (.cells (dfaC 0 pl0 (.slice none 0 0) (.slice none 0 0)) 34 true))).at h'.next = _ := at_set_same
    generalize hb.set h'.next (some (.cells (dfaC 0 pl0 (.slice none 0 0) (.slice none 0 0)) 34 true)) = hs at cb bb2 ⊢
    have gs : GrowP h' hs := gb.p.chg cb (by omega)
    have ns := cb.next
    have bz : bno (Value.slice none 0 0) = 0 := rfl
    have ov : OutV hs h'.next h'.next (.slice none 0 0) (.slice none 0 0) (.slice none 0 0) [] [] pl0 [] [] 0 := by
      refine ⟨bb2, by omega, by omega, hpl0, ⟨by rw [bz]; omega, .inl ⟨rfl, rfl⟩⟩, ⟨by rw [bz]; omega, .inl ⟨rfl, rfl⟩⟩, ⟨by rw [bz]; omega, .inl ⟨rfl, rfl⟩⟩, rfl, fun i hi => by simp at hi, ?_, ?_⟩
      · intro i j hi hj hij he
        match i, j, hi, hj with
        | 0, 0, _, _ => omega
        | 0, 1, _, _ => exact he.trans rfl
        | 0, 2, _, _ => exact he.trans rfl
        | 0, 3, _, _ => exact he.trans rfl
        | 1, _, _, _ => rfl
        | 2, _, _, _ => rfl
        | 3, _, _, _ => rfl
        | i + 4, _, hi, _ => simp only [List.length_cons, List.length_nil] at hi; omega
        | 0, j + 4, _, hj => simp only [List.length_cons, List.length_nil] at hj; omega
      · intro i hi
        match i, hi with
        | 0, _ => exact .inr (Nat.le_refl _)
        | 1, _ => exact .inl rfl
        | 2, _ => exact .inl rfl
        | 3, _ => exact .inl rfl
        | i + 4, hi => simp only [List.length_nil] at hi; omega
    have bfs := bf.gp gs
    have tvs := tv5.gp (gp.trans gs)
    have orl := bf.oo.sl.r
    simp only [List.length_map] at orl
    have tlt := tv5.lt
    have tlow := tv5.low
    have hrlen : (d.rule.map fun x => max x (-1)).length = d.next.length := by rw [List.length_map]; exact k3
    obtain ⟨Rl, eRl⟩ : ∃ Rl : List Int, (d.rule.map fun x => max x (-1)) = Rl := ⟨_, rfl⟩
    rw [eRl] at tvs hrlen
    simp (maxSteps := 2000000) (disch := first | omega | assumption | (simp only [oneC_int, oneC_bool, oneC_str, oneC_ptr, oneC_sl, oneC_map]; done) | (simp only [List.length_cons, List.length_nil, List.length_set, List.length_map, List.length_replicate, List.length_append, List.length_take, List.length_drop, Int.toNat_natCast] <;> omega) | fail) only [Go.Rx.vi, Go.Rx.vb, Go.Rx.vstr, rxc, rxo, Nat.reduceLeDiff, List.getElem?_cons_zero, List.getElem?_cons_succ, List.length_cons, List.length_nil, List.set_cons_zero, List.set_cons_succ, ↓reduceIte, Bool.not_true, Bool.not_false, true_and, and_true, not_true_eq_false, not_false_eq_true, decide_true, decide_false, Nat.reduceEqDiff, Nat.reduceAdd, Nat.reduceMul, Nat.reducePow, Int.reduceToNat, Int.reducePow, Nat.zero_add, Nat.mul_one, Int.toNat_natCast, e1, e2, e5, e8, e9, R19_26, orl]
    refine WC_bloop 17 (fun m e hh => ∃ (i : Nat) (vp : Value), m = st.ord.length - i ∧ i ≤ st.ord.length ∧ e.g 1 = pB h.next ∧ e.g 2 = pB h1.next ∧ e.g 5 = pB tb ∧ e.g 9 = vw ∧ e.g 14 = pB h'.next ∧ e.g 114 = vo ∧ e.g 115 = .int .i64 st.ord.length ∧ e.g 116 = .int .i64 i ∧
        OutV hh h'.next h'.next (.slice none 0 0) (.slice none 0 0) vp [] [] pl0 [] ((st.ord.take i).map fun s => Rl.getD s.toNat 0) 0 ∧ GrowP h' hh)
      (fun e hh => ∃ (vp : Value), e.g 1 = pB h.next ∧ e.g 2 = pB h1.next ∧ e.g 5 = pB tb ∧ e.g 9 = vw ∧ e.g 14 = pB h'.next ∧
        OutV hh h'.next h'.next (.slice none 0 0) (.slice none 0 0) vp [] [] pl0 [] (st.ord.map fun s => Rl.getD s.toNat 0) 0 ∧ GrowP h' hh) ?_ ?_ ?_
    · refine ⟨_, 0, .slice none 0 0, rfl, by omega, ?_, ?_, ?_, ?_, ?_, ?_, ?_, ?_, ov, gs⟩
      all_goals simp (maxSteps := 2000000) (disch := first | omega | assumption | (simp only [oneC_int, oneC_bool, oneC_str, oneC_ptr, oneC_sl, oneC_map]; done) | (simp only [List.length_cons, List.length_nil, List.length_set, List.length_map, List.length_replicate, List.length_append, List.length_take, List.length_drop, Int.toNat_natCast] <;> omega) | fail) only [Go.Rx.vi, Go.Rx.vb, Go.Rx.vstr, rxc, rxo, Nat.reduceLeDiff, List.getElem?_cons_zero, List.getElem?_cons_succ, List.length_cons, List.length_nil, List.set_cons_zero, List.set_cons_succ, ↓reduceIte, Bool.not_true, Bool.not_false, true_and, and_true, not_true_eq_false, not_false_eq_true, decide_true, decide_false, Nat.reduceEqDiff, Nat.reduceAdd, Nat.reduceMul, Nat.reducePow, Int.reduceToNat, Int.reducePow, Nat.zero_add, Nat.mul_one, Int.toNat_natCast, e1, e2, e5, e8, e9]
      rfl
    · rintro m e hh ⟨i, vp, rfl, hi, e1, e2, e5, e9, e14, e114, e115, e116, ov, gh⟩
      simp (maxSteps := 2000000) (disch := first | omega | assumption | (simp only [oneC_int, oneC_bool, oneC_str, oneC_ptr, oneC_sl, oneC_map]; done) | (simp only [List.length_cons, List.length_nil, List.length_set, List.length_map, List.length_replicate, List.length_append, List.length_take, List.length_drop, Int.toNat_natCast] <;> omega) | fail) only [Go.Rx.vi, Go.Rx.vb, Go.Rx.vstr, rxc, rxo, Nat.reduceLeDiff, List.getElem?_cons_zero, List.getElem?_cons_succ, List.length_cons, List.length_nil, List.set_cons_zero, List.set_cons_succ, ↓reduceIte, Bool.not_true, Bool.not_false, true_and, and_true, not_true_eq_false, not_false_eq_true, decide_true, decide_false, Nat.reduceEqDiff, Nat.reduceAdd, Nat.reduceMul, Nat.reducePow, Int.reduceToNat, Int.reducePow, Nat.zero_add, Nat.mul_one, Int.toNat_natCast, B19_2, R19_27, e1, e2, e5, e9, e14, e114, e115, e116]
      refine WCond_dec (fun hc => ?_) (fun hc => ?_)
      · obtain ⟨o1, o2, o3⟩ := num.ord i (by omega)
        have gnh := gh.next
        have orh := (bf.gp gh).oo.sl.r
        have tvh := tv5.gp (gp.trans gh)
        rw [eRl] at tvh
        have rrh := tvh.or_.sl.r
        simp only [List.length_map, hrlen] at orh rrh
        have hzl : (dfaC 0 pl0 (.slice none 0 0) vp).length = 259 := dfaC_len hpl0
        simp (maxSteps := 2000000) (disch := first | omega | assumption | (simp only [oneC_int, oneC_bool, oneC_str, oneC_ptr, oneC_sl, oneC_map]; done) | (simp only [List.length_cons, List.length_nil, List.length_set, List.length_map, List.length_replicate, List.length_append, List.length_take, List.length_drop, Int.toNat_natCast] <;> omega) | fail) only [Go.Rx.vi, Go.Rx.vb, Go.Rx.vstr, rxc, rxo, Nat.reduceLeDiff, List.getElem?_cons_zero, List.getElem?_cons_succ, List.length_cons, List.length_nil, List.set_cons_zero, List.set_cons_succ, ↓reduceIte, Bool.not_true, Bool.not_false, true_and, and_true, not_true_eq_false, not_false_eq_true, decide_true, decide_false, Nat.reduceEqDiff, Nat.reduceAdd, Nat.reduceMul, Nat.reducePow, Int.reduceToNat, Int.reducePow, Nat.zero_add, Nat.mul_one, Int.toNat_natCast, R19_28, e1, e2, e5, e9, e14, e114, e115, e116, orh, ints_get]
        refine WC_regd0 hm ?_
        simp (maxSteps := 2000000) (disch := first | omega | assumption | (simp only [oneC_int, oneC_bool, oneC_str, oneC_ptr, oneC_sl, oneC_map]; done) | (simp only [List.length_cons, List.length_nil, List.length_set, List.length_map, List.length_replicate, List.length_append, List.length_take, List.length_drop, Int.toNat_natCast] <;> omega) | fail) only [Go.Rx.vi, Go.Rx.vb, Go.Rx.vstr, rxc, rxo, Nat.reduceLeDiff, List.getElem?_cons_zero, List.getElem?_cons_succ, List.length_cons, List.length_nil, List.set_cons_zero, List.set_cons_succ, ↓reduceIte, Bool.not_true, Bool.not_false, true_and, and_true, not_true_eq_false, not_false_eq_true, decide_true, decide_false, Nat.reduceEqDiff, Nat.reduceAdd, Nat.reduceMul, Nat.reducePow, Int.reduceToNat, Int.reducePow, Nat.zero_add, Nat.mul_one, Int.toNat_natCast, R19_29, e1, e2, e5, e9, e14, e114, e115, e116, ov.tab, dfaC_258 hpl0, tvh.tab, tabC_258 tvh.pl, rrh, ints_get]
        refine WI_app1c (by omega) ov.or_ rfl (by rw [List.length_map, List.length_map, List.length_take]; omega) fun vp' h6 o6 c6 f6 => ?_
        have hne : bno vp ≠ h'.next ∨ bno vp = 0 := ov.ne_tab 2 (by omega)
        have htab6 : h6.at h'.next = some (.cells (dfaC 0 pl0 (.slice none 0 0) vp) 34 true) := by
          rw [c6.at_ _ ov.lt (by omega)]; exact ov.tab
        have fro := ov.fresh 3 (by omega)
        simp only [List.getD_cons_succ, List.getD_cons_zero] at fro
        simp (maxSteps := 2000000) (disch := first | omega | assumption | (simp only [oneC_int, oneC_bool, oneC_str, oneC_ptr, oneC_sl, oneC_map]; done) | (simp only [List.length_cons, List.length_nil, List.length_set, List.length_map, List.length_replicate, List.length_append, List.length_take, List.length_drop, Int.toNat_natCast] <;> omega) | fail) only [Go.Rx.vi, Go.Rx.vb, Go.Rx.vstr, rxc, rxo, Nat.reduceLeDiff, List.getElem?_cons_zero, List.getElem?_cons_succ, List.length_cons, List.length_nil, List.set_cons_zero, List.set_cons_succ, ↓reduceIte, Bool.not_true, Bool.not_false, true_and, and_true, not_true_eq_false, not_false_eq_true, decide_true, decide_false, Nat.reduceEqDiff, Nat.reduceAdd, Nat.reduceMul, Nat.reducePow, Int.reduceToNat, Int.reducePow, Nat.zero_add, Nat.mul_one, Int.toNat_natCast, e1, e2, e5, e9, e14, e114, e115, e116, htab6, cellsN_one o6.sl.oneC, stM_one o6.sl.oneC, dfaC_set258 hpl0, R19_30]
        have c7 : Chg h'.next h6 (h6.set h'.next (some (.cells (dfaC 0 pl0 (.slice none 0 0) vp') 34 true))) := Chg.set
        rw [ints_app] at o6
        have ov7 := ov.addRule (by omega) o6 c6 f6 c7 at_set_same
        refine ⟨_, by omega, i + 1, vp', rfl, by omega, by simp, ?_, (gh.chg c6 (by omega)).chg c7 (by omega)⟩
        rw [take_snoc' (d := 0) (by omega), List.map_append]
        exact ov7
      · have hin : i = st.ord.length := by omega
        rw [hin, List.take_length] at ov
        simp (maxSteps := 2000000) (disch := first | omega | assumption | (simp only [oneC_int, oneC_bool, oneC_str, oneC_ptr, oneC_sl, oneC_map]; done) | (simp only [List.length_cons, List.length_nil, List.length_set, List.length_map, List.length_replicate, List.length_append, List.length_take, List.length_drop, Int.toNat_natCast] <;> omega) | fail) only [Go.Rx.vi, Go.Rx.vb, Go.Rx.vstr, rxc, rxo, Nat.reduceLeDiff, List.getElem?_cons_zero, List.getElem?_cons_succ, List.length_cons, List.length_nil, List.set_cons_zero, List.set_cons_succ, ↓reduceIte, Bool.not_true, Bool.not_false, true_and, and_true, not_true_eq_false, not_false_eq_true, decide_true, decide_false, Nat.reduceEqDiff, Nat.reduceAdd, Nat.reduceMul, Nat.reducePow, Int.reduceToNat, Int.reducePow, Nat.zero_add, Nat.mul_one, Int.toNat_natCast, e1, e2, e5, e9, e14]
        exact ⟨vp, ov, gh⟩
    · rintro e hh ⟨vp, e1, e2, e5, e9, e14, ov, gh⟩
      have gnh := gh.next
      have tvh := tv5.gp (gp.trans gh)
      have b1x : hh.at h.next = some (.cells (dfaC d.start d.cls vn vr) 34 true) := by rw [gh.at_ _ (by omega) (by omega)]; exact b1h
      have bfh := bf.gp gh
      have oyl := tv5.oy.1
      have onl := bf.on.1
      simp (maxSteps := 2000000) (disch := first | omega | assumption | (simp only [oneC_int, oneC_bool, oneC_str, oneC_ptr, oneC_sl, oneC_map]; done) | (simp only [List.length_cons, List.length_nil, List.length_set, List.length_map, List.length_replicate, List.length_append, List.length_take, List.length_drop, Int.toNat_natCast] <;> omega) | fail) only [Go.Rx.vi, Go.Rx.vb, Go.Rx.vstr, rxc, rxo, Nat.reduceLeDiff, List.getElem?_cons_zero, List.getElem?_cons_succ, List.length_cons, List.length_nil, List.set_cons_zero, List.set_cons_succ, ↓reduceIte, Bool.not_true, Bool.not_false, true_and, and_true, not_true_eq_false, not_false_eq_true, decide_true, decide_false, Nat.reduceEqDiff, Nat.reduceAdd, Nat.reduceMul, Nat.reducePow, Int.reduceToNat, Int.reducePow, Nat.zero_add, Nat.mul_one, Int.toNat_natCast]
      refine WC_regd0 hm ?_
      simp (maxSteps := 2000000) (disch := first | omega | assumption | (simp only [oneC_int, oneC_bool, oneC_str, oneC_ptr, oneC_sl, oneC_map]; done) | (simp only [List.length_cons, List.length_nil, List.length_set, List.length_map, List.length_replicate, List.length_append, List.length_take, List.length_drop, Int.toNat_natCast] <;> omega) | fail) only [Go.Rx.vi, Go.Rx.vb, Go.Rx.vstr, rxc, rxo, Nat.reduceLeDiff, List.getElem?_cons_zero, List.getElem?_cons_succ, List.length_cons, List.length_nil, List.set_cons_zero, List.set_cons_succ, ↓reduceIte, Bool.not_true, Bool.not_false, true_and, and_true, not_true_eq_false, not_false_eq_true, decide_true, decide_false, Nat.reduceEqDiff, Nat.reduceAdd, Nat.reduceMul, Nat.reducePow, Int.reduceToNat, Int.reducePow, Nat.zero_add, Nat.mul_one, Int.toNat_natCast, R19_31, e1, e2, e5, e9, e14, b1x, tvh.tab, tabC_0, hcd]
      refine classed_ok (S := S) (us1 := us) hm hO73 hF73 hO47 hF47 (by omega) gnh ov rfl hd.cls hd.byte tvh.oy.sl (by omega) rfl hbl (fun x hx => repsTo_range hx) (fun i j hi hj he => reps_inj hi hj he) bfh.on.sl (by omega) bf.len (by omega) (fun i hi => (bfh.row i hi).sl) (fun i hi => by have := (bf.row i hi).1; omega) hrw hre fun h9 vn9 us9 cls' cc ov9 c9 hcc => ?_
      have n9 := c9.next
      have cl9 : cls'.length = 256 := ov9.pl
      have hcd9 : cut (dfaC 0 cls' vn9 vp) 0 259 = some (dfaC 0 cls' vn9 vp) := cut_all (dfaC_len cl9)
      have b2x : h9.at h1.next = some (.cells (dfaC 0 pl0 (.slice none 0 0) (.slice none 0 0)) 34 true) := by
        rw [c9.at_ _ (by omega) (by omega) (by omega), gh.at_ _ (by omega) (by omega), ← epl]; exact b2h
      have z9 : (dfaC 0 cls' vn9 vp).length = 259 := dfaC_len cl9
      have zone9 : allOne (dfaC 0 cls' vn9 vp) = true := allOne_dfaC ov9.on.sl.isSl ov9.or_.sl.isSl
      have zne9 : dfaC 0 cls' vn9 vp ≠ [] := fun e => by rw [e] at z9; simp at z9
      simp (maxSteps := 2000000) (disch := first | omega | assumption | (simp only [oneC_int, oneC_bool, oneC_str, oneC_ptr, oneC_sl, oneC_map]; done) | (simp only [List.length_cons, List.length_nil, List.length_set, List.length_map, List.length_replicate, List.length_append, List.length_take, List.length_drop, Int.toNat_natCast] <;> omega) | fail) only [Go.Rx.vi, Go.Rx.vb, Go.Rx.vstr, rxc, rxo, Nat.reduceLeDiff, List.getElem?_cons_zero, List.getElem?_cons_succ, List.length_cons, List.length_nil, List.set_cons_zero, List.set_cons_succ, ↓reduceIte, Bool.not_true, Bool.not_false, true_and, and_true, not_true_eq_false, not_false_eq_true, decide_true, decide_false, Nat.reduceEqDiff, Nat.reduceAdd, Nat.reduceMul, Nat.reducePow, Int.reduceToNat, Int.reducePow, Nat.zero_add, Nat.mul_one, Int.toNat_natCast, e1, e2, e5, e9, e14, R19_32, ov9.tab, hcd9, b2x, z9, stM_full zone9 zne9 (z9.trans z259.symm)]
      have c10 : Chg h1.next h9 (h9.set h1.next (some (.cells (dfaC 0 cls' vn9 vp) 34 true))) := Chg.set
      have b10 : (h9.set h1.next (some (.cells (dfaC 0 cls' vn9 vp) 34 true))).at h1.next = _ := at_set_same
      generalize h9.set h1.next (some (.cells (dfaC 0 cls' vn9 vp) 34 true)) = h10 at c10 b10 ⊢
      have ov10 := ov9.other c10 (fun i hi => by have := ov9.fresh i hi; omega)
      refine ⟨_, resV_ln (v := .agg ⟨dfaC 0 cls' vn9 vp⟩) (h' := h10) ?_, ?_⟩
      · simp (maxSteps := 2000000) (disch := first | omega | assumption | (simp only [oneC_int, oneC_bool, oneC_str, oneC_ptr, oneC_sl, oneC_map]; done) | (simp only [List.length_cons, List.length_nil, List.length_set, List.length_map, List.length_replicate, List.length_append, List.length_take, List.length_drop, Int.toNat_natCast] <;> omega) | fail) only [Go.Rx.vi, Go.Rx.vb, Go.Rx.vstr, rxc, rxo, Nat.reduceLeDiff, List.getElem?_cons_zero, List.getElem?_cons_succ, List.length_cons, List.length_nil, List.set_cons_zero, List.set_cons_succ, ↓reduceIte, Bool.not_true, Bool.not_false, true_and, and_true, not_true_eq_false, not_false_eq_true, decide_true, decide_false, Nat.reduceEqDiff, Nat.reduceAdd, Nat.reduceMul, Nat.reducePow, Int.reduceToNat, Int.reducePow, Nat.zero_add, Nat.mul_one, Int.toNat_natCast, e2, b10, hcd9]
      have n10 := c10.next
      have hg10 : GrowP h h10 := ⟨by omega, fun b hb1 hb2 => by
        rw [c10.at_ _ (by omega) (by omega), c9.at_ _ (by omega) (by omega) (by omega), gh.at_ _ (by omega) (by omega)]
        exact gAh.at_ b hb1 hb2⟩
      have hfl3 := firsts_le rows (repsTo d.cls 256).length
      subst eRl
      simp (maxSteps := 2000000) (disch := first | omega | assumption | (simp only [oneC_int, oneC_bool, oneC_str, oneC_ptr, oneC_sl, oneC_map]; done) | (simp only [List.length_cons, List.length_nil, List.length_set, List.length_map, List.length_replicate, List.length_append, List.length_take, List.length_drop, Int.toNat_natCast] <;> omega) | fail) only [Go.Rx.vi, Go.Rx.vb, Go.Rx.vstr, rxc, rxo, Nat.reduceLeDiff, List.getElem?_cons_zero, List.getElem?_cons_succ, List.length_cons, List.length_nil, List.set_cons_zero, List.set_cons_succ, ↓reduceIte, Bool.not_true, Bool.not_false, true_and, and_true, not_true_eq_false, not_false_eq_true, decide_true, decide_false, Nat.reduceEqDiff, Nat.reduceAdd, Nat.reduceMul, Nat.reducePow, Int.reduceToNat, Int.reducePow, Nat.zero_add, Nat.mul_one, Int.toNat_natCast]
      refine hk h10 ⟨0, cls', rows.map fun row => (firsts rows (repsTo d.cls 256).length).map fun i => row.getD i 0, st.ord.map fun s => (d.rule.map fun x => max x (-1)).getD s.toNat 0⟩ _ vn9 vp us9 hg10 ?_ ⟨is, T, of, st, rows, cc, his, hal, hT, hTs, hfl, hof, hE, ?_, rfl, rfl, rfl, cl9, hcc⟩
      · refine ⟨rfl, cl9, fun b hb => ?_, ⟨ov10.on.sl, ov10.len, fun i hi => (ov10.row i hi).sl, fun i hi => ?_⟩, ov10.or_.sl, ?_, ?_, ?_, ?_, fun i hi => ?_⟩
        · obtain ⟨j, hj, hjb⟩ := reps_full (cls := d.cls) b hb
          obtain ⟨q1, q2, q3⟩ := hcc j hj
          show 0 ≤ cls'.getD b 0 ∧ cls'.getD b 0 < 256
          rw [q3 b hb hjb.symm]
          omega
        · have hi : i < rows.length := by simpa using hi
          have q := ov10.fresh (i + 4) (by rw [ov10.len, List.length_map]; omega)
          simp only [List.getD_cons_succ] at q
          omega
        · have q := ov10.fresh 2 (by omega)
          simp only [List.getD_cons_succ, List.getD_cons_zero] at q
          show bno vn9 = 0 ∨ h.next ≤ bno vn9
          omega
        · have q := ov10.fresh 3 (by omega)
          simp only [List.getD_cons_succ, List.getD_cons_zero] at q
          show bno vp = 0 ∨ h.next ≤ bno vp
          omega
        · simp only [List.length_map]; omega
        · simp only [List.length_map]; omega
        · have hi : i < rows.length := by simpa using hi
          simp only
          rw [getD_map (d' := []) (by omega), List.length_map]
          omega
      · rw [hfin, hst]
end Go.Rx

namespace Go.Rx
set_option linter.unusedSimpArgs false
set_option linter.unusedVariables false

def pz (π : Nat → Nat) (x : Int) : Int := if x < 0 then x else (π x.toNat : Nat)
theorem pz_neg {π : Nat → Nat} {x : Int} (h : x < 0) : pz π x = x := if_pos h
theorem pz_pos {π : Nat → Nat} {x : Int} (h : 0 ≤ x) : pz π x = (π x.toNat : Nat) := if_neg (by omega)
theorem pz_lt {π : Nat → Nat} {x : Int} : pz π x < 0 ↔ x < 0 := by
  by_cases h : x < 0
  · rw [pz_neg h]
  · rw [pz_pos (by omega)]; omega
theorem pz_nat {π : Nat → Nat} {x : Int} (h : 0 ≤ x) : (pz π x).toNat = π x.toNat := by rw [pz_pos h]; omega

section
variable {L L' : List (List Int)} {Rl Rl' : List Int} {k nb : Nat} {π : Nat → Nat}
theorem alv_fwd (hL : L.length = k) (hlt : ∀ s, s < k → π s < L'.length) (hrow : ∀ s, s < k → L'.getD (π s) [] = (L.getD s []).map (pz π)) (hrule : ∀ s, s < k → Rl'.getD (π s) 0 = Rl.getD s 0) {s : Nat} (h : Alv L Rl s) : Alv L' Rl' (π s) := by
  induction h with
  | base s hs h => exact .base _ (hlt s (by omega)) (by rw [hrule s (by omega)]; exact h)
  | step s j hs hj h0 h ih =>
    have hg : (L'.getD (π s) []).getD j 0 = pz π ((L.getD s []).getD j 0) := by rw [hrow s (by omega), getD_map (d' := 0) hj]
    refine .step _ j (hlt s (by omega)) (by rw [hrow s (by omega), List.length_map]; exact hj) ?_ ?_
    · rw [hg, pz_pos h0]; omega
    · rw [hg, pz_nat h0]; exact ih
theorem alv_bwd (hL : L.length = k) (hrow : ∀ s, s < k → L'.getD (π s) [] = (L.getD s []).map (pz π)) (hrule : ∀ s, s < k → Rl'.getD (π s) 0 = Rl.getD s 0) (hrng : ∀ s, s < k → ∀ j, j < (L.getD s []).length → (L.getD s []).getD j 0 < k) {u : Nat} (h : Alv L' Rl' u) : ∀ s, s < k → u = π s → Alv L Rl s := by
  induction h with
  | base u hu h => intro s hs e; subst e; exact .base _ (by omega) (by rw [← hrule s hs]; exact h)
  | step u j hu hj h0 h ih =>
    intro s hs e
    subst e
    rw [hrow s hs, List.length_map] at hj
    have hg : (L'.getD (π s) []).getD j 0 = pz π ((L.getD s []).getD j 0) := by rw [hrow s hs, getD_map (d' := 0) hj]
    have hx : 0 ≤ (L.getD s []).getD j 0 := by
      have := @pz_lt π ((L.getD s []).getD j 0)
      rw [hg] at h0
      omega
    refine .step _ j (by omega) hj hx (ih _ (by have := hrng s hs j hj; omega) ?_)
    rw [hg, pz_nat hx]
theorem sameT_pz {E E' : Nat → Nat → Prop} {x y : Int} (hx : x < k) (hy : y < k) (h : ∀ s t, s < k → t < k → (E' (π s) (π t) ↔ E s t)) : sameT E' (pz π x) (pz π y) ↔ sameT E x y := by
  unfold sameT
  rw [pz_lt, pz_lt]
  by_cases h0 : 0 ≤ x ∧ 0 ≤ y
  · rw [pz_nat h0.1, pz_nat h0.2, pz_pos h0.1, pz_pos h0.2, h _ _ (by omega) (by omega)]
    constructor
    · rintro (q | q)
      · exact .inl q
      · exact .inr ⟨h0.1, h0.2, q.2.2⟩
    · rintro (q | q)
      · exact .inl q
      · exact .inr ⟨by omega, by omega, q.2.2⟩
  · have := @pz_lt π x
    have := @pz_lt π y
    constructor
    · rintro (q | q)
      · exact .inl q
      · omega
    · rintro (q | q)
      · exact .inl q
      · omega
theorem eqv_iff {T T' : List (List Int)} (hrow : ∀ s, s < k → T'.getD (π s) [] = (T.getD s []).map (pz π)) (hrule : ∀ s, s < k → Rl'.getD (π s) 0 = Rl.getD s 0) (hw : ∀ s, s < k → (T.getD s []).length = nb) (hrng : ∀ s, s < k → ∀ j, j < nb → (T.getD s []).getD j 0 < k) :
    ∀ r s t, s < k → t < k → (Eqv T' Rl' nb r (π s) (π t) ↔ Eqv T Rl nb r s t)
  | 0, s, t, _, _ => Iff.rfl
  | r + 1, s, t, hs, ht => by
    have ih := eqv_iff hrow hrule hw hrng r
    unfold Eqv
    rw [hrule s hs, hrule t ht, ih s t hs ht]
    have key : ∀ j, j < nb → (sameT (Eqv T' Rl' nb r) ((T'.getD (π s) []).getD j 0) ((T'.getD (π t) []).getD j 0) ↔ sameT (Eqv T Rl nb r) ((T.getD s []).getD j 0) ((T.getD t []).getD j 0)) := fun j hj => by
      rw [hrow s hs, hrow t ht, getD_map (d' := 0) (by rw [hw s hs]; exact hj), getD_map (d' := 0) (by rw [hw t ht]; exact hj)]
      exact sameT_pz (hrng s hs j hj) (hrng t ht j hj) ih
    exact and_congr Iff.rfl (and_congr Iff.rfl ⟨fun h j hj => (key j hj).1 (h j hj), fun h j hj => (key j hj).2 (h j hj)⟩)
end

/-! ### The numbering, on both sides -/
structure RelB (k : Nat) (π : Nat → Nat) (of of' : List Int) (st st' : BSt) : Prop where
  ord : st'.ord = st.ord.map (pz π)
  num : ∀ s, s < k → st'.num.getD (of'.getD (π s) 0).toNat 0 = st.num.getD (of.getD s 0).toNat 0

section
variable {k k' : Nat} {π : Nat → Nat} {of of' : List Int}
theorem bst1_rel (hof : ∀ s, s < k → 0 ≤ of.getD s 0 ∧ of.getD s 0 < k) (hof' : ∀ s, s < k' → 0 ≤ of'.getD s 0 ∧ of'.getD s 0 < k') (hπ : ∀ s, s < k → π s < k') (hE : ∀ s t, s < k → t < k → (of'.getD (π s) 0 = of'.getD (π t) 0 ↔ of.getD s 0 = of.getD t 0))
    {st st' : BSt} (hl : st.num.length = k) (hl' : st'.num.length = k') (r : RelB k π of of' st st') {x : Int} (hx : x < k) : (bst1 of' st' (pz π x)).2 = (bst1 of st x).2 ∧ RelB k π of of' (bst1 of st x).1 (bst1 of' st' (pz π x)).1 ∧ (bst1 of st x).1.num.length = k ∧ (bst1 of' st' (pz π x)).1.num.length = k' := by
  have hol : st'.ord.length = st.ord.length := by rw [r.ord, List.length_map]
  unfold bst1
  by_cases h0 : x < 0
  · rw [if_pos h0, if_pos (pz_lt.2 h0)]
    exact ⟨rfl, r, hl, hl'⟩
  · have h0' : ¬ pz π x < 0 := fun h => h0 (pz_lt.1 h)
    have hxk : x.toNat < k := by omega
    have hb := hof x.toNat hxk
    have hb' := hof' _ (hπ _ hxk)
    rw [if_neg h0, if_neg h0', pz_nat (by omega), r.num _ hxk]
    by_cases h1 : st.num.getD (of.getD x.toNat 0).toNat 0 = 0
    · rw [if_pos h1, if_pos h1]
      refine ⟨by simp only [hol], ⟨by simp [r.ord], fun s hs => ?_⟩, by simp [hl], by simp [hl']⟩
      simp only
      have hs1 := hof s hs
      have hs2 := hof' _ (hπ _ hs)
      rw [getD_set (by omega), getD_set (by omega), hol, r.num s hs]
      have := hE x.toNat s hxk hs
      by_cases e : of.getD x.toNat 0 = of.getD s 0
      · rw [if_pos (by rw [this.2 e]), if_pos (by rw [e])]
      · have : ¬ of'.getD (π x.toNat) 0 = of'.getD (π s) 0 := fun h => e (this.1 h)
        rw [if_neg (by omega), if_neg (by omega)]
    · rw [if_neg h1, if_neg h1]
      exact ⟨rfl, r, hl, hl'⟩
theorem bstR_rel (hof : ∀ s, s < k → 0 ≤ of.getD s 0 ∧ of.getD s 0 < k) (hof' : ∀ s, s < k' → 0 ≤ of'.getD s 0 ∧ of'.getD s 0 < k') (hπ : ∀ s, s < k → π s < k') (hE : ∀ s t, s < k → t < k → (of'.getD (π s) 0 = of'.getD (π t) 0 ↔ of.getD s 0 = of.getD t 0)) :
    ∀ (l : List Int) (st st' : BSt), st.num.length = k → st'.num.length = k' → RelB k π of of' st st' → (∀ x ∈ l, x < k) → (bstR of' (l.map (pz π)) st').2 = (bstR of l st).2 ∧ RelB k π of of' (bstR of l st).1 (bstR of' (l.map (pz π)) st').1 ∧ (bstR of l st).1.num.length = k ∧ (bstR of' (l.map (pz π)) st').1.num.length = k'
  | [], st, st', h1, h2, r, _ => ⟨rfl, r, h1, h2⟩
  | x :: l, st, st', h1, h2, r, hx => by
    obtain ⟨q1, q2, q3, q4⟩ := bst1_rel hof hof' hπ hE h1 h2 r (hx x (by simp))
    obtain ⟨p1, p2, p3, p4⟩ := bstR_rel hof hof' hπ hE l _ _ q3 q4 q2 (fun y hy => hx y (by simp [hy]))
    simp only [List.map_cons, bstR]
    exact ⟨by rw [q1, p1], p2, p3, p4⟩
theorem bstF_rel {T T' : List (List Int)} (hof : ∀ s, s < k → 0 ≤ of.getD s 0 ∧ of.getD s 0 < k) (hof' : ∀ s, s < k' → 0 ≤ of'.getD s 0 ∧ of'.getD s 0 < k') (hπ : ∀ s, s < k → π s < k') (hE : ∀ s t, s < k → t < k → (of'.getD (π s) 0 = of'.getD (π t) 0 ↔ of.getD s 0 = of.getD t 0))
    (hrow : ∀ s, s < k → T'.getD (π s) [] = (T.getD s []).map (pz π)) (hT : ∀ s, s < k → ∀ x ∈ T.getD s [], x < k) :
    ∀ (f f' n : Nat) (st st' : BSt) (rows : List (List Int)), NumI of k st → st'.num.length = k' → RelB k π of of' st st' → k + 1 ≤ n + f → k + 1 ≤ n + f' →
      (bstF T' of' f' n st' rows).2 = (bstF T of f n st rows).2 ∧ RelB k π of of' (bstF T of f n st rows).1 (bstF T' of' f' n st' rows).1 ∧ NumI of k (bstF T of f n st rows).1
  | 0, f', n, st, st', rows, h1, h2, r, hf, hf' => by
    have hl := h1.le hof
    have hol : st'.ord.length = st.ord.length := by rw [r.ord, List.length_map]
    rw [bstF_end (show ¬ n < st.ord.length by omega), bstF_end (show ¬ n < st'.ord.length by omega)]
    exact ⟨rfl, r, h1⟩
  | f + 1, f', n, st, st', rows, h1, h2, r, hf, hf' => by
    have hl := h1.le hof
    have hol : st'.ord.length = st.ord.length := by rw [r.ord, List.length_map]
    by_cases hn : n < st.ord.length
    · obtain ⟨g, rfl⟩ : ∃ g, f' = g + 1 := ⟨f' - 1, by omega⟩
      obtain ⟨o1, o2, _⟩ := h1.ord n hn
      simp only [bstF]
      rw [if_pos hn, if_pos (show n < st'.ord.length by omega)]
      have ho : (st'.ord.getD n 0).toNat = π (st.ord.getD n 0).toNat := by rw [r.ord, getD_map (d' := 0) hn, pz_nat o1]
      rw [ho, hrow _ (by omega)]
      obtain ⟨p1, p2, p3, p4⟩ := bstR_rel hof hof' hπ hE (T.getD (st.ord.getD n 0).toNat []) st st' h1.len h2 r (hT _ (by omega))
      rw [p1]
      exact bstF_rel hof hof' hπ hE hrow hT f g (n + 1) _ _ _ (h1.row hof (hT _ (by omega))) p4 p2 (by omega) (by omega)
    · rw [bstF_end hn, bstF_end (show ¬ n < st'.ord.length by omega)]
      exact ⟨rfl, r, h1⟩
end
end Go.Rx

namespace Go.Rx
set_option linter.unusedSimpArgs false
set_option linter.unusedVariables false

theorem firsts_sorted (rows : List (List Int)) (n : Nat) : (firsts rows n).Pairwise (· < ·) := List.Pairwise.filter _ List.pairwise_lt_range
theorem firsts_uniq {rows : List (List Int)} {n a b : Nat} (ha : a < (firsts rows n).length) (hb : b < (firsts rows n).length) (h : colF rows ((firsts rows n).getD a 0) = colF rows ((firsts rows n).getD b 0)) : a = b := by
  have key : ∀ a b, a < b → b < (firsts rows n).length → colF rows ((firsts rows n).getD a 0) ≠ colF rows ((firsts rows n).getD b 0) := fun a b hab hb => by
    have h1 := List.pairwise_iff_getElem.1 (firsts_sorted rows n) a b (by omega) hb hab
    have e1 : (firsts rows n).getD a 0 = (firsts rows n)[a]'(by omega) := by rw [List.getD_eq_getElem?_getD, List.getElem?_eq_getElem (by omega)]; rfl
    have e2 : (firsts rows n).getD b 0 = (firsts rows n)[b] := by rw [List.getD_eq_getElem?_getD, List.getElem?_eq_getElem hb]; rfl
    rw [e1, e2]
    exact (isFst_iff.1 (firsts_lt (List.getElem_mem hb)).2) _ h1
  rcases Nat.lt_trichotomy a b with q | q | q
  · exact absurd h (key a b q hb)
  · exact q
  · exact absurd h.symm (key b a q ha)

/-- One automaton as a picture of another. -/
structure Emb (π : Nat → Nat) (d d' : DfaD) : Prop where
  lt : ∀ s, s < d.next.length → π s < d'.next.length
  part : ∀ a b, a < 256 → b < 256 → (d'.cls.getD a 0 = d'.cls.getD b 0 ↔ d.cls.getD a 0 = d.cls.getD b 0)
  row : ∀ s, s < d.next.length → ∀ b, b < 256 → max ((d'.next.getD (π s) []).getD (d'.cls.getD b 0).toNat 0) (-1) = pz π (max ((d.next.getD s []).getD (d.cls.getD b 0).toNat 0) (-1))
  rule : ∀ s, s < d.next.length → max (d'.rule.getD (π s) 0) (-1) = max (d.rule.getD s 0) (-1)
  start : d'.start = π d.start.toNat
  rng : ∀ s, s < d.next.length → ∀ b, b < 256 → (d.next.getD s []).getD (d.cls.getD b 0).toNat 0 < d.next.length
  start0 : 0 ≤ d.start ∧ d.start < d.next.length
  some : 1 ≤ d.next.length
  le : d.next.length ≤ d'.next.length
  rlen : d.rule.length = d.next.length
  rlen' : d'.rule.length = d'.next.length

theorem Emb.reps {π : Nat → Nat} {d d' : DfaD} (e : Emb π d d') : repsTo d'.cls 256 = repsTo d.cls 256 := by
  unfold repsTo
  congr 1
  refine List.filter_congr fun b hb => ?_
  rw [List.mem_range] at hb
  have : firstB d'.cls b = true ↔ firstB d.cls b = true := by
    rw [firstB_iff, firstB_iff]
    exact ⟨fun h a ha he => h a ha ((e.part a b (by omega) hb).2 he), fun h a ha he => h a ha ((e.part a b (by omega) hb).1 he)⟩
  cases h1 : firstB d'.cls b <;> cases h2 : firstB d.cls b <;> simp_all

theorem least_same {π : Nat → Nat} {d d' x x' : DfaD} (e : Emb π d d') (l : LeastS d x) (l' : LeastS d' x') : x' = x := by
  obtain ⟨is, T, of, st, rows, cc, his, hal, hT, hTs, hfl, hof, hE, hfin, s1, s2, s3, s4, s5⟩ := l
  obtain ⟨is', T', of', st', rows', cc', his', hal', hT', hTs', hfl', hof', hE', hfin', s1', s2', s3', s4', s5'⟩ := l'
  rw [e.reps] at *
  have hk := e.some
  have hrp : ∀ j, j < (repsTo d.cls 256).length → 0 ≤ (repsTo d.cls 256).getD j 0 ∧ (repsTo d.cls 256).getD j 0 < 256 := fun j hj => repsTo_range (getD_mem hj)
  -- the tables
  obtain ⟨L, eL⟩ : ∃ L, d.next.map (tnRow d.cls (repsTo d.cls 256)) = L := ⟨_, rfl⟩
  obtain ⟨L', eL'⟩ : ∃ L', d'.next.map (tnRow d'.cls (repsTo d.cls 256)) = L' := ⟨_, rfl⟩
  obtain ⟨Rl, eRl⟩ : ∃ Rl, (d.rule.map fun x => max x (-1)) = Rl := ⟨_, rfl⟩
  obtain ⟨Rl', eRl'⟩ : ∃ Rl', (d'.rule.map fun x => max x (-1)) = Rl' := ⟨_, rfl⟩
  rw [eL, eRl] at hal
  rw [eL', eRl'] at hal'
  rw [eRl] at hE s2
  rw [eRl'] at hE' s2'
  have hLl : L.length = d.next.length := by rw [← eL, List.length_map]
  have hLl' : L'.length = d'.next.length := by rw [← eL', List.length_map]
  have hLs : ∀ s, s < d.next.length → L.getD s [] = tnRow d.cls (repsTo d.cls 256) (d.next.getD s []) := fun s hs => by rw [← eL, getD_map (d' := []) hs]
  have hLs' : ∀ s, s < d'.next.length → L'.getD s [] = tnRow d'.cls (repsTo d.cls 256) (d'.next.getD s []) := fun s hs => by rw [← eL', getD_map (d' := []) hs]
  have hLw : ∀ s, s < d.next.length → (L.getD s []).length = (repsTo d.cls 256).length := fun s hs => by rw [hLs s hs]; simp [tnRow]
  have hLe : ∀ s, s < d.next.length → ∀ j, j < (repsTo d.cls 256).length → (L.getD s []).getD j 0 < d.next.length := fun s hs j hj => by
    rw [hLs s hs]
    unfold tnRow
    rw [getD_map (d' := 0) hj]
    have := hrp j hj
    have := e.rng s hs ((repsTo d.cls 256).getD j 0).toNat (by omega)
    omega
  have hLrow : ∀ s, s < d.next.length → L'.getD (π s) [] = (L.getD s []).map (pz π) := fun s hs => by
    rw [hLs' _ (e.lt s hs), hLs s hs]
    unfold tnRow
    rw [List.map_map]
    refine List.map_congr_left fun b hb => ?_
    have hb := repsTo_range hb
    exact e.row s hs b.toNat (by omega)
  have hRl : ∀ s, s < d.next.length → Rl'.getD (π s) 0 = Rl.getD s 0 := fun s hs => by
    have := e.rlen; have := e.rlen'; have := e.lt s hs
    rw [← eRl, ← eRl', getD_map (d' := 0) (by omega), getD_map (d' := 0) (by omega)]
    exact e.rule s hs
  -- who is alive
  have hAl : ∀ s, s < d.next.length → is'.getD (π s) false = is.getD s false := fun s hs => by
    have h1 := hal s hs
    have h2 := hal' (π s) (e.lt s hs)
    have h3 : Alv L' Rl' (π s) ↔ Alv L Rl s := ⟨fun h => alv_bwd hLl hLrow hRl (fun s hs j hj => hLe s hs j (by rw [← hLw s hs]; exact hj)) h s hs rfl, fun h => alv_fwd hLl (fun s hs => by rw [hLl']; exact e.lt s hs) hLrow hRl h⟩
    rw [← h1, ← h2] at h3
    cases q1 : is'.getD (π s) false <;> cases q2 : is.getD s false <;> rw [q1, q2] at h3 <;> simp at h3 ⊢
  have hTT : ∀ s, s < d.next.length → T.getD s [] = trimR is (L.getD s []) := fun s hs => by rw [hTs s hs, hLs s hs]
  have hTe : ∀ s, s < d.next.length → ∀ j, j < (repsTo d.cls 256).length → (T.getD s []).getD j 0 < d.next.length := fun s hs j hj => by
    rw [hTT s hs]
    unfold trimR
    rw [getD_map (d' := 0) (by rw [hLw s hs]; exact hj)]
    have := hLe s hs j hj
    unfold trimX
    split <;> omega
  have hTw : ∀ s, s < d.next.length → (T.getD s []).length = (repsTo d.cls 256).length := fun s hs => by rw [hTT s hs, trimR, List.length_map, hLw s hs]
  have hTrow : ∀ s, s < d.next.length → T'.getD (π s) [] = (T.getD s []).map (pz π) := fun s hs => by
    rw [hTs' _ (e.lt s hs), ← hLs' _ (e.lt s hs), hLrow s hs, hTT s hs]
    unfold trimR
    rw [List.map_map, List.map_map]
    refine List.map_congr_left fun y hy => ?_
    obtain ⟨j, hj, rfl⟩ := mem_getD hy
    rw [hLw s hs] at hj
    have hlt := hLe s hs j hj
    simp only [Function.comp]
    generalize (L.getD s []).getD j 0 = y at hlt
    unfold trimX
    by_cases h0 : 0 ≤ y
    · rw [pz_nat h0, hAl _ (by omega)]
      by_cases h1 : is.getD y.toNat false = false
      · rw [if_pos ⟨by rw [pz_pos h0]; omega, h1⟩, if_pos ⟨h0, h1⟩]; rfl
      · rw [if_neg (fun h => h1 h.2), if_neg (fun h => h1 h.2)]
    · have := @pz_lt π y
      rw [if_neg (by omega), if_neg (by omega)]
  have hEE : ∀ s t, s < d.next.length → t < d.next.length → (of'.getD (π s) 0 = of'.getD (π t) 0 ↔ of.getD s 0 = of.getD t 0) := fun s t hs ht => by
    rw [hE s t hs ht, hE' _ _ (e.lt s hs) (e.lt t ht)]
    exact ⟨fun h r => (eqv_iff hTrow hRl hTw hTe r s t hs ht).1 (h r), fun h r => (eqv_iff hTrow hRl hTw hTe r s t hs ht).2 (h r)⟩
  -- the numbering
  obtain ⟨k4, k5⟩ := e.start0
  have hs0 : d.start.toNat < d.next.length := by omega
  have hos := hof d.start.toNat hs0
  have hos' := hof' _ (e.lt _ hs0)
  have est : d'.start.toNat = π d.start.toNat := by rw [e.start]; omega
  have num0 : NumI of d.next.length ⟨(List.replicate d.next.length 0).set (of.getD d.start.toNat 0).toNat 1, [d.start]⟩ := by
    refine ⟨by simp, fun j hj => ?_, fun c hc => ?_⟩
    · have : j = 0 := by simp at hj; omega
      subst this
      refine ⟨k4, k5, ?_⟩
      rw [getD_set (by rw [List.length_replicate]; omega)]
      simp only [List.getD_cons_zero]
      rw [if_pos trivial]; rfl
    · rw [getD_set (by rw [List.length_replicate]; omega), getD_rep hc]
      simp only [List.length_singleton]
      split <;> omega
  have rel0 : RelB d.next.length π of of' ⟨(List.replicate d.next.length 0).set (of.getD d.start.toNat 0).toNat 1, [d.start]⟩ ⟨(List.replicate d'.next.length 0).set (of'.getD d'.start.toNat 0).toNat 1, [d'.start]⟩ := by
    refine ⟨?_, fun s hs => ?_⟩
    · simp only [List.map_cons, List.map_nil]
      rw [pz_pos k4, e.start]
    · have hs1 := hof s hs
      have hs2 := hof' _ (e.lt s hs)
      simp only
      rw [est, getD_set (by rw [List.length_replicate]; omega), getD_set (by rw [List.length_replicate]; omega), getD_rep (by omega), getD_rep (by omega)]
      have := hEE d.start.toNat s hs0 hs
      by_cases q : of.getD d.start.toNat 0 = of.getD s 0
      · rw [if_pos (by rw [this.2 q]), if_pos (by rw [q])]
      · have : ¬ of'.getD (π d.start.toNat) 0 = of'.getD (π s) 0 := fun h => q (this.1 h)
        rw [if_neg (by omega), if_neg (by omega)]
  have hTm : ∀ s, s < d.next.length → ∀ y ∈ T.getD s [], y < d.next.length := fun s hs y hy => by
    obtain ⟨j, hj, rfl⟩ := mem_getD hy
    exact hTe s hs j (by rw [← hTw s hs]; exact hj)
  obtain ⟨p1, p2, p3⟩ := bstF_rel hof hof' e.lt hEE hTrow hTm (d.next.length + 1) (d'.next.length + 1) 0 _ _ [] num0 (by simp) rel0 (by omega) (by have := e.le; omega)
  rw [hfin, hfin'] at p1 p2
  rw [hfin] at p3
  simp only at p1 p2 p3
  subst p1
  have r1 : x'.start = x.start := by rw [s1, s1']
  have r2 : x'.rule = x.rule := by
    rw [s2, s2', p2.ord, List.map_map]
    refine List.map_congr_left fun y hy => ?_
    obtain ⟨j, hj, rfl⟩ := mem_getD hy
    obtain ⟨o1, o2, _⟩ := p3.ord j hj
    simp only [Function.comp]
    rw [pz_nat o1]
    exact hRl _ (by omega)
  have r3 : x'.next = x.next := by rw [s3, s3']
  have r4 : x'.cls = x.cls := by
    refine ext_getD 0 (by rw [s4, s4']) fun b hb => ?_
    rw [s4'] at hb
    obtain ⟨j, hj, hjb⟩ := reps_full (cls := d.cls) b hb
    obtain ⟨a1, a2, a3⟩ := s5 j hj
    obtain ⟨c1, c2, c3⟩ := s5' j hj
    have hrj := hrp j hj
    have hjb' := (e.part b ((repsTo d.cls 256).getD j 0).toNat hb (by omega)).2 hjb.symm
    rw [a3 b hb hjb.symm, c3 b hb hjb', firsts_uniq c1 a1 (c2.trans a2.symm)]
  cases x; cases x'
  simp only at r1 r2 r3 r4
  rw [r1, r2, r3, r4]
end Go.Rx

namespace Go.Rx
set_option linter.unusedSimpArgs false
set_option linter.unusedVariables false
structure Prm (n : Nat) (l : List Int) : Prop where
  len : l.length = n
  rng : ∀ s, s < n → 0 ≤ l.getD s 0 ∧ l.getD s 0 < n
  inj : ∀ s t, s < n → t < n → l.getD s 0 = l.getD t 0 → s = t
theorem Prm.id {n : Nat} {l : List Int} (h : l.length = n) (hl : ∀ j : Nat, j < n → l.getD j 0 = j) : Prm n l :=
  ⟨h, fun s hs => by rw [hl s hs]; omega, fun s t hs ht he => by rw [hl s hs, hl t ht] at he; omega⟩
theorem Prm.swap {n : Nat} {l : List Int} (p : Prm n l) {a b : Nat} (ha : a < n) (hb : b < n) : Prm n ((l.set a (l.getD b 0)).set b (l.getD a 0)) := by
  have hl := p.len
  have g : ∀ s, ((l.set a (l.getD b 0)).set b (l.getD a 0)).getD s 0 = l.getD (if b = s then a else if a = s then b else s) 0 := fun s => by
    rw [getD_set (by rw [List.length_set]; omega)]
    by_cases e : b = s
    · rw [if_pos e, if_pos e]
    · rw [if_neg e, if_neg e, getD_set (by omega)]
      by_cases e2 : a = s
      · rw [if_pos e2, if_pos e2]
      · rw [if_neg e2, if_neg e2]
  refine ⟨by simp [hl], fun s hs => ?_, fun s t hs ht he => ?_⟩
  · rw [g]
    refine p.rng _ ?_
    split
    · exact ha
    · split
      · exact hb
      · exact hs
  · rw [g, g] at he
    have hσ : ∀ s, s < n → (if b = s then a else if a = s then b else s) < n := by
      intro s hs
      by_cases e1 : b = s
      · rw [if_pos e1]; exact ha
      · rw [if_neg e1]
        by_cases e2 : a = s
        · rw [if_pos e2]; exact hb
        · rw [if_neg e2]; exact hs
    have := p.inj _ _ (hσ s hs) (hσ t ht) he
    have hτ : ∀ s, (b = s ∧ (if b = s then a else if a = s then b else s) = a) ∨ (b ≠ s ∧ a = s ∧ (if b = s then a else if a = s then b else s) = b) ∨ (b ≠ s ∧ a ≠ s ∧ (if b = s then a else if a = s then b else s) = s) := by
      intro s
      by_cases e1 : b = s
      · exact .inl ⟨e1, if_pos e1⟩
      · by_cases e2 : a = s
        · exact .inr (.inl ⟨e1, e2, by rw [if_neg e1, if_pos e2]⟩)
        · exact .inr (.inr ⟨e1, e2, by rw [if_neg e1, if_neg e2]⟩)
    have h1 := hτ s
    have h2 := hτ t
    generalize (if b = s then a else if a = s then b else s) = x at this h1
    generalize (if b = t then a else if a = t then b else t) = y at this h2
    omega
theorem Prm.onto {n : Nat} {l : List Int} (p : Prm n l) {i : Nat} (hi : i < n) : ∃ s, s < n ∧ l.getD s 0 = i := by
  by_cases h : ∃ s, s < n ∧ l.getD s 0 = i
  · exact h
  · have hne : ∀ s, s < n → l.getD s 0 ≠ i := fun s hs e => h ⟨s, hs, e⟩
    have := pig n (n + 1) (fun y => if y < n then (l.getD y 0).toNat else i) (fun y hy => by
      show (if y < n then (l.getD y 0).toNat else i) < n
      split
      · rename_i hyn; have := p.rng y hyn; omega
      · exact hi) (fun y z hy hz he => by
      have he : (if y < n then (l.getD y 0).toNat else i) = (if z < n then (l.getD z 0).toNat else i) := he
      by_cases h1 : y < n <;> by_cases h2 : z < n
      · rw [if_pos h1, if_pos h2] at he
        have := p.rng y h1; have := p.rng z h2
        exact p.inj y z h1 h2 (by omega)
      · rw [if_pos h1, if_neg h2] at he
        have := p.rng y h1; have := hne y h1; omega
      · rw [if_neg h1, if_pos h2] at he
        have := p.rng z h2; have := hne z h2; omega
      · omega)
    omega
def piO (ol : List Int) (s : Nat) : Nat := (ol.getD s 0).toNat
/-- A row, in other numbers. -/
def RowT (ol cl row r : List Int) (c : Nat) : Prop := r.length = cl.length ∧ ∀ j, j < c → r.getD (cl.getD j 0).toNat 0 = pz (piO ol) (row.getD j 0)

/-- The automaton in other numbers. -/
structure TurnedS (ol cl : List Int) (d d' : DfaD) : Prop where
  start : d'.start = ol.getD d.start.toNat 0
  len : d'.next.length = d.next.length
  rlen : d'.rule.length = d.next.length
  clen : d'.cls.length = 256
  cls : ∀ b, b < 256 → d'.cls.getD b 0 = cl.getD (d.cls.getD b 0).toNat 0
  row : ∀ s, s < d.next.length → RowT ol cl (d.next.getD s []) (d'.next.getD (piO ol s) []) cl.length
  rule : ∀ s, s < d.next.length → d'.rule.getD (piO ol s) 0 = d.rule.getD s 0

section
variable {ol cl : List Int} {d d' : DfaD}
theorem TurnedS.emb (t : TurnedS ol cl d d') (ok : Dok d) (hc : d.cls.length = 256) (hb : ∀ i : Nat, i < 256 → 0 ≤ d.cls.getD i 0 ∧ d.cls.getD i 0 < 256) (po : Prm d.next.length ol) (pc : Prm (d.next.getD 0 []).length cl) : Emb (piO ol) d d' := by
  obtain ⟨k1, k2, k3, k4, k5, k6, k7, k8⟩ := ok
  obtain ⟨k9, k10⟩ := cls_bounds hc hb k7
  have hpo : ∀ s, s < d.next.length → ((piO ol s : Nat) : Int) = ol.getD s 0 := fun s hs => by have := po.rng s hs; unfold piO; omega
  have hlc : ∀ b, b < 256 → (d.cls.getD b 0).toNat < (d.next.getD 0 []).length := fun b hb' => by have := hb b hb'; have := k10 b hb'; omega
  refine ⟨fun s hs => ?_, fun a b ha hb' => ?_, fun s hs b hb' => ?_, fun s hs => by rw [t.rule s hs], ?_, fun s hs b hb' => ?_, ⟨k4, k5⟩, k1, by rw [t.len]; exact Nat.le_refl _, k3, by rw [t.rlen, t.len]⟩
  · rw [t.len]; have := po.rng s hs; unfold piO; omega
  · rw [t.cls a ha, t.cls b hb']
    have h1 := hb a ha
    have h2 := hb b hb'
    exact ⟨fun h => by have := pc.inj _ _ (hlc a ha) (hlc b hb') h; omega, fun h => by rw [h]⟩
  · rw [t.cls b hb']
    obtain ⟨q1, q2⟩ := t.row s hs
    rw [q2 _ (by rw [pc.len]; exact hlc b hb')]
    by_cases h0 : (d.next.getD s []).getD (d.cls.getD b 0).toNat 0 < 0
    · rw [pz_neg h0, pz_neg (by omega)]
    · rw [pz_pos (by omega), pz_pos (by omega)]
      have : (max ((d.next.getD s []).getD (d.cls.getD b 0).toNat 0) (-1)) = ((d.next.getD s []).getD (d.cls.getD b 0).toNat 0) := by omega
      rw [this]
      omega
  · rw [t.start, hpo _ (by omega)]
  · obtain ⟨q1, q2, q3⟩ := k8 s hs
    have := le_maxI (getD_mem (l := d.next.getD s []) (i := (d.cls.getD b 0).toNat) (by rw [q1]; exact hlc b hb'))
    omega
theorem TurnedS.dok (t : TurnedS ol cl d d') (ok : Dok d) (hc : d.cls.length = 256) (hb : ∀ i : Nat, i < 256 → 0 ≤ d.cls.getD i 0 ∧ d.cls.getD i 0 < 256) (po : Prm d.next.length ol) (pc : Prm (d.next.getD 0 []).length cl) : Dok d' := by
  obtain ⟨k1, k2, k3, k4, k5, k6, k7, k8⟩ := ok
  obtain ⟨k9, k10⟩ := cls_bounds hc hb k7
  have hlc : ∀ b, b < 256 → (d.cls.getD b 0).toNat < (d.next.getD 0 []).length := fun b hb' => by have := hb b hb'; have := k10 b hb'; omega
  have hw : ∀ i, i < d.next.length → (d'.next.getD i []).length = (d.next.getD 0 []).length := fun i hi => by
    obtain ⟨s, hs, e⟩ := po.onto hi
    have := (t.row s hs).1
    have e2 : piO ol s = i := by unfold piO; omega
    rw [e2] at this
    rw [this, pc.len]
  have hs0 := po.rng d.start.toNat (by omega)
  refine ⟨by rw [t.len]; exact k1, by rw [t.len]; exact k2, by rw [t.rlen, t.len], by rw [t.start]; exact hs0.1, by rw [t.start, t.len]; exact hs0.2, by rw [hw 0 (by omega)]; exact k6, ?_, fun i hi => ?_⟩
  · have hcl := t.clen
    rw [hw 0 (by omega), maxI_lt (fun e => by rw [e] at hcl; simp at hcl)]
    intro b hb'
    rw [hcl] at hb'
    rw [t.cls b hb']
    exact (pc.rng _ (hlc b hb')).2
  · rw [t.len] at hi
    obtain ⟨s, hs, e⟩ := po.onto hi
    have e2 : piO ol s = i := by unfold piO; omega
    obtain ⟨q1, q2, q3⟩ := k8 s hs
    refine ⟨by rw [hw i hi, hw 0 (by omega)], ?_, by rw [← e2, t.rule s hs]; exact q3⟩
    have hwi := hw i hi
    rw [t.len, maxI_lt (fun e => by rw [e] at hwi; rw [List.length_nil] at hwi; have := k9; omega)]
    intro j hj
    rw [hwi] at hj
    obtain ⟨c, hc', ec⟩ := pc.onto hj
    have := (t.row s hs).2 c (by rw [pc.len]; exact hc')
    have ec2 : (cl.getD c 0).toNat = j := by omega
    rw [e2, ec2] at this
    rw [this]
    have hm := le_maxI (getD_mem (l := d.next.getD s []) (i := c) (by omega))
    by_cases h0 : (d.next.getD s []).getD c 0 < 0
    · rw [pz_neg h0]; omega
    · rw [pz_pos (by omega)]
      have := po.rng ((d.next.getD s []).getD c 0).toNat (by omega)
      unfold piO
      omega
end
end Go.Rx
