/- Contracts of functions of the given program, over the abstract machine. -/
import Derived.Test.YtabhplelhjcdiaaRh3
import Derived.Test.YtabhplelhjcdiaaRxRow0
namespace Go.Rx
variable {M : Mach}
set_option maxRecDepth 4000
set_option linter.unusedSimpArgs false
set_option linter.unusedVariables false

structure LawF (M : Mach) : Prop extends MatF M where
  o23 : M.O 23 = some saysTrue
  o24 : M.O 24 = none
  f24 : M.F 24 = some A24
  o25 : M.O 25 = none
  f25 : M.F 25 = some A25

theorem Star.split {R : Nat → Nat → Prop} {i j : Nat} (h : Star R i j) : i = j ∨ ∃ m, R i m ∧ Star R m j := by
  cases h with
  | refl _ => exact .inl rfl
  | step h2 h3 => exact .inr ⟨_, h2, h3⟩
abbrev z6 : List Value := [.int .i64 0, .int .u64 0, .int .u64 0, .int .u64 0, .int .u64 0, .slice none 0 0]
abbrev bldC (k : Int) (v : Value) : List Value := [.int .i64 k, .int .u64 0, .int .u64 0, .int .u64 0, .int .u64 0, v]
theorem fillA {e : Env} {c1 : List Value} (h1 : c1.length = 6) {r : List (Nat × Nat × Opd)} : fillQ e (rl [(1, (.int .i64 0)), (4, (.int .u64 0)), (1, (.slice none 0 0)), (1, (.int .i64 0)), (4, (.int .u64 0)), (1, (.slice none 0 0))]) 0 (some c1) r = fillP e (c1 ++ z6) r := by
  rw [fillQ_many (by rintro rfl; simp at h1) (by show 0 + c1.length ≤ 12; omega)]
  rw [List.take_zero, List.nil_append, h1]
  rfl
theorem fillB {e : Env} {c1 c2 : List Value} (h1 : c1.length = 6) (h2 : c2.length = 6) {r : List (Nat × Nat × Opd)} : fillQ e (c1 ++ z6) 6 (some c2) r = fillP e (c1 ++ c2) r := by
  rw [fillQ_many (by rintro rfl; simp at h2) (by simp [h1, h2])]
  rw [List.take_left' h1, List.drop_of_length_le (by simp [h1, h2]), List.append_nil]
theorem RegC.bld {h : Heap} {k : Int} {v : Value} {css : List (List Value)} {ps : List RegD} (h0 : 0 ≤ k) (h1 : k ≤ 100) (hs : SlN 48 6 h v css) (hl : RegL h ps css) (hlb : ps.length ≤ 9223372036854775807 := by simp) : RegC h (.mk k [0, 0, 0, 0] ps) (bldC k v) := by
  rw [RegC]
  exact ⟨0, 0, 0, 0, v, css, rfl, rfl, by omega, by simp, hs, hl, hlb⟩
theorem SlN.nil {h : Heap} (h1 : 1 ≤ h.next) : SlN 48 6 h (.slice none 0 0) [] := ⟨by show 0 < _; omega, by simp, .inl ⟨rfl, rfl⟩⟩
theorem sl_two {h : Heap} {c1 c2 : List Value} (h1 : 1 ≤ h.next) (l1 : c1.length = 6) (l2 : c2.length = 6) : SlN 48 6 (h.new (.cells (c1 ++ c2) 48 true)) (.slice (some ⟨h.next, 0, none⟩) 2 2) [c1, c2] :=
  ⟨by show h.next < h.next + 1; omega, by simp [l1, l2], .inr ⟨h.next, 0, none, 2, _, _, _, rfl, h1, at_new_same, fun _ => rfl, by simp, by rw [cut_all (by simp [l1, l2])]; simp⟩⟩
theorem RegL.two {h : Heap} {r s : RegD} {c1 c2 : List Value} (hr : RegC h r c1) (hs : RegC h s c2) : RegL h [r, s] [c1, c2] := ⟨c1, [c2], rfl, hr, c2, [], rfl, hs, rfl⟩
theorem sl_one {h : Heap} {c1 : List Value} (h1 : 1 ≤ h.next) (l1 : c1.length = 6) : SlN 48 6 (h.new (.cells c1 48 true)) (.slice (some ⟨h.next, 0, none⟩) 1 1) [c1] := (own_one h1 l1).sl
theorem bldC_ones {k : Int} {v : Value} (hv : OneC v) : allOne (bldC k v) = true := by
  refine allOne_of fun x hx => ?_
  simp at hx
  rcases hx with rfl | rfl | rfl
  · rfl
  · rfl
  · exact hv

end Go.Rx

set_option linter.unusedVariables false
set_option linter.unusedSimpArgs false
namespace Go.Rx

variable {P : Program}

def ReadsE (P : Program) (fuel : Nat) (t : TypeId) (n : Nat) {α : Type} (R : Repr α) (bk : α → Nat) : Prop :=
  ∀ {Hd : Type} (enc : TypeId × Value → Hd) (W : World) (cs : List Value) (d : DataW Hd) (ps : List MemPlace), DataW.trod enc P W 0 (fun _ => true) true fuel t cs = some (d, ps) →
    cs.length = n ∧ ∃ x, bk x ≤ bulk d ∧ Rd1 P W R cs x
theorem Reads.e {t : TypeId} {n : Nat} {α : Type} {R : Repr α} {bk : α → Nat} (h : Reads P t n R bk) (f : Nat) : ReadsE P f t n R bk := fun enc W cs d ps hh => h enc W f cs d ps hh
theorem reads_elemsE {Hd : Type} {enc : TypeId × Value → Hd} {W : World} {fuel n : Nat} {e : TypeId} {α : Type} {R : Repr α} {bk : α → Nat} (he : ReadsE P fuel e n R bk) : ∀ (css : List (List Value)) (ds : List (DataW Hd × List MemPlace)), css.length = ds.length →
    (∀ (i : Nat) c d, css[i]? = some c → ds[i]? = some d → DataW.trod enc P W 0 (fun _ => true) true fuel e c = some d) →
    ∃ xs : List α, xs.length = css.length ∧ (xs.map bk).sum ≤ bulkAll (ds.map (·.1)) ∧ (∀ (i : Nat) c x, css[i]? = some c → xs[i]? = some x → c.length = n ∧ Rd1 P W R c x)
  | [], [], _, _ => ⟨[], rfl, by simp, fun i c x h => by simp at h⟩
  | c :: css, d :: ds, hl, hh => by
    obtain ⟨h1, x, hb, hx⟩ := he enc W c d.1 d.2 (hh 0 c d (by simp) (by simp))
    obtain ⟨xs, g1, g2, g3⟩ := reads_elemsE he css ds (by simpa using hl) (fun i c d h1 h2 => hh (i + 1) c d (by simpa using h1) (by simpa using h2))
    refine ⟨x :: xs, by simp [g1], ?_, ?_⟩
    · simp only [List.map_cons, List.sum_cons, bulkAll]
      omega
    · intro i c' x' h2 h3
      cases i with
      | zero => simp at h2 h3; subst h2; subst h3; exact ⟨h1, hx⟩
      | succ i => simp at h2 h3; exact g3 i c' x' h2 h3
  | [], _ :: _, hl, _ => by simp at hl
  | _ :: _, [], hl, _ => by simp at hl

def slRB {α : Type} (e : TypeId) (R : Repr α) : Repr (List α) := fun H cs l => slR e R H cs l ∧ l.length ≤ 9223372036854775807
theorem slRB_mono {α : Type} {e : TypeId} {R : Repr α} (hR : RMono R) : RMono (slRB e R) := fun H H' cs x g h => ⟨slR_mono hR _ _ _ _ g h.1, h.2⟩
theorem reads_sliceE {t e : TypeId} {n : Nat} {α : Type} {R : Repr α} {bk : α → Nat} (ht : P.underlying t = some (.slice e)) (hn : P.cellsOf e = n) (hn0 : 0 < n) {f : Nat} (he : ReadsE P f e n R bk) (hR : RMono R) : ReadsE P (f + 1) t 1 (slRB e R) (fun l => (l.map bk).sum + 1) := by
  intro Hd enc W cs d ps h
  rcases DataW.trod_slice ht h with ⟨rfl, hx⟩ | ⟨a, len, cap, elems, rest, m, hfm, rfl, hx, _, hlc, hcm, hel, hget, hsp, _⟩
  · cases hx
    exact ⟨rfl, [], Nat.le_refl _, fun ρ H hs ho h1n => ⟨_, ρ, H, hs, ho, ρ.le_refl, .refl _, .cons _ _ _ _ .slNil .nil, ⟨.inl ⟨rfl, rfl⟩, by simp⟩⟩⟩
  · cases hx
    obtain rfl : f = m := by omega
    refine ⟨rfl, ?_⟩
    obtain ⟨hrl, hrget⟩ := hsp rfl
    obtain ⟨css, c1, c2, c3⟩ := ge_lookup elems _ _ len hel hget
    obtain ⟨xs, g1, g2, g3⟩ := reads_elemsE (fuel := f) he css elems c1 c2
    refine ⟨xs, ?_, ?_⟩
    · simp only [bulk]; omega
    · intro ρ H hs ho h1n
      obtain ⟨css', ρ1, H1, a1, a2, a3, a4, a5, a6⟩ := rdL hR css xs g1.symm (fun i c x h1 h2 => (g3 i c x h1 h2).2) ρ H hs ho h1n
      have hn1 : 1 ≤ H1.next := Nat.le_trans h1n a4.1
      have hxl : xs.length = len := by rw [g1, c1, hel]
      have hxlB : xs.length ≤ 9223372036854775807 := by
        rw [hxl]
        have : maxLen = 9223372036854775807 := rfl
        omega
      have hlens : ∀ c ∈ css, c.length = n := by
        intro c hc
        obtain ⟨i, hi⟩ := mem_get hc
        have hix : i < xs.length := by rw [g1]; exact (List.getElem?_eq_some_iff.1 hi).1
        exact (g3 i c xs[i] hi (by simp [hix])).1
      by_cases hcap : cap = 0
      · -- it lies anywhere
        have hl0 : len = 0 := by omega
        subst hcap; subst hl0
        obtain ⟨k1, k2⟩ := a1.ghost a2 (cs := css'.flatten) (e := e)
        refine ⟨[.slice (some ⟨H1.next, 0, some 0⟩) 0 0], ρ1, _, k1, k2, a3, a4.new, .cons _ _ _ _ (.sl0 _ _) .nil, ⟨.inr ⟨H1.next, 0, css', by rw [hxl], by omega, hn1, by simp, at_new_same, ?_⟩, hxlB⟩⟩
        exact RL_mono hR ((Grow.refl H1).new) a6
      · -- its block
        have hblk : a.spot = none ∧ ∃ ccs ct fr, W.heap[a.block]? = some (.cells ccs ct fr) := by
          by_cases hl0 : len = 0
          · have hr := hrget 0 (by omega)
            have hlt : 0 < rest.length := by omega
            rw [List.getElem?_eq_getElem hlt] at hr
            obtain ⟨c, hc, _⟩ := Option.bind_eq_some_iff.1 hr
            rw [hn] at hc
            obtain ⟨hcl, hcc⟩ := cells_some hc
            have h0 : 0 < c.length := by omega
            obtain ⟨q1, ccs, ct, fr, q2, _⟩ := cell_some (hcc 0 c[0] (by simp [h0]))
            subst hl0
            rw [Nat.add_zero, Nat.zero_mul, add_zero, add_zero] at q1 q2
            exact ⟨q1, ccs, ct, fr, q2⟩
          · have hr := hget 0 (by omega)
            have hlt : 0 < elems.length := by omega
            rw [List.getElem?_eq_getElem hlt] at hr
            obtain ⟨c, hc, _⟩ := Option.bind_eq_some_iff.1 hr
            rw [hn] at hc
            obtain ⟨hcl, hcc⟩ := cells_some hc
            have h0 : 0 < c.length := by omega
            obtain ⟨q1, ccs, ct, fr, q2, _⟩ := cell_some (hcc 0 c[0] (by simp [h0]))
            rw [Nat.zero_mul, add_zero, add_zero] at q1 q2
            exact ⟨q1, ccs, ct, fr, q2⟩
        obtain ⟨hspot, ccs, ct, fr, hb⟩ := hblk
        have hat : VRAt ρ1 css'.flatten ccs a.off := by
          intro i v hv
          obtain ⟨v', hv', hvr⟩ := a5.flat.get i v hv
          refine ⟨v', ?_, hvr⟩
          have hlen := flat_len css hlens
          have hi : i < css.length * n := by rw [← hlen]; exact (List.getElem?_eq_some_iff.1 hv').1
          have hq : i / n < css.length := Nat.div_lt_of_lt_mul (by rw [Nat.mul_comm]; exact hi)
          have hr : i % n < n := Nat.mod_lt _ hn0
          have hdm : i / n * n + i % n = i := by rw [Nat.mul_comm]; exact Nat.div_add_mod i n
          have hci : css[i / n]? = some css[i / n] := by simp [hq]
          have hfg := flat_get css (i / n) (i % n) css[i / n] hlens hci hr
          rw [hdm, hv'] at hfg
          have hc := c3 (i / n) _ hci
          rw [hn] at hc
          obtain ⟨_, hcc⟩ := cells_some hc
          obtain ⟨_, ccs2, ct2, fr2, q2, q3⟩ := cell_some (hcc (i % n) v' hfg.symm)
          obtain ⟨f1, f2, f3⟩ := add_parts a (i / n * n)
          obtain ⟨e1, e2, _⟩ := add_parts (a.add (i / n * n)) (i % n)
          rw [e1, f1, hb] at q2
          cases q2
          rw [e2 (f3 hspot), f2 hspot] at q3
          rw [← q3]
          congr 1
          omega
        obtain ⟨k1, k2⟩ := a1.ro a2 (e := e) hb hat
        have hle1 : ρ1.le (ρ1.up H1.next ⟨a.block, a.off, ccs.size, P.cellsOf e⟩) := Ren.le_up (a1.fresh _ (Nat.le_refl _))
        refine ⟨[.slice (some ⟨H1.next, 0, some 0⟩) len cap], _, _, k1, k2, Ren.le_trans a3 hle1, a4.new, .cons _ _ _ _ ?_ .nil, ⟨.inr ⟨H1.next, cap, css', by rw [hxl], by omega, hn1, by simp, at_new_same, ?_⟩, hxlB⟩⟩
        · have := VR.sl (ρ := ρ1.up H1.next ⟨a.block, a.off, ccs.size, P.cellsOf e⟩) ⟨H1.next, 0, some 0⟩ len cap cap _ (Ren.up_same _ _ _) hlc (Nat.le_refl _) (fun _ => rfl) (fun h => by cases h)
          simp only [Nat.add_zero] at this
          have ea : a = ⟨a.block, a.off, none⟩ := by cases a; simp at hspot; subst hspot; rfl
          rw [ea]
          exact this
        · exact RL_mono hR ((Grow.refl H1).new) a6

theorem reads_struct3E {t : TypeId} {f0 f1 f2 : Field} {n0 n1 n2 : Nat} {α β γ : Type} {R0 : Repr α} {R1 : Repr β} {R2 : Repr γ} {fu : Nat} {b0 : α → Nat} {b1 : β → Nat} {b2 : γ → Nat} (ht : P.underlying t = some (.struct #[f0, f1, f2])) (o0 : f0.offset = 0) (o1 : f1.offset = n0) (o2 : f2.offset = n0 + n1)
    (c0 : P.cellsOf f0.type = n0) (c1 : P.cellsOf f1.type = n1) (c2 : P.cellsOf f2.type = n2) (h0 : ReadsE P fu f0.type n0 R0 b0) (h1 : ReadsE P fu f1.type n1 R1 b1) (h2 : ReadsE P fu f2.type n2 R2 b2) (hc : P.cellsOf t = n0 + n1 + n2) (m0 : RMono R0) (m1 : RMono R1) (m2 : RMono R2) :
    ReadsE P (fu + 1) t (n0 + n1 + n2) (pairR n0 R0 (pairR n1 R1 (pairR n2 R2 nilR))) (fun x => b0 x.1 + b1 x.2.1 + b2 x.2.2.1 + 1) := by
  intro Hd enc W cs d ps h
  obtain ⟨xs, n, hfn, hx, hl, hxl, hget⟩ := DataW.trod_struct ht h
  obtain rfl : fu = n := by omega
  cases hx
  rw [hc] at hl
  match xs, hxl, hget with
  | [x0, x1, x2], _, hget =>
    obtain ⟨l0, y0, q0, r0⟩ := h0 enc W _ x0.1 x0.2 (by simpa [o0, c0] using hget 0 f0 rfl)
    obtain ⟨l1, y1, q1, r1⟩ := h1 enc W _ x1.1 x1.2 (by simpa [o1, c1] using hget 1 f1 rfl)
    obtain ⟨l2, y2, q2, r2⟩ := h2 enc W _ x2.1 x2.2 (by simpa [o2, c2] using hget 2 f2 rfl)
    refine ⟨hl, (y0, y1, y2, ()), ?_, ?_⟩
    · simp only [List.map_cons, List.map_nil, bulk, bulkAll]; omega
    · have e : cs = cs.take n0 ++ ((cs.drop n0).take n1 ++ ((cs.drop (n0 + n1)).take n2 ++ [])) := by
        rw [List.append_nil, List.take_of_length_le (i := n2) (by simp; omega), ← List.drop_drop, List.take_append_drop, List.take_append_drop]
      rw [e]
      refine Rd1.pair m0 (by simpa using r0) (Rd1.pair m1 r1 (Rd1.pair m2 r2 Rd1.nil))

end Go.Rx
