/- Contracts of functions of the given program, over the abstract machine. -/
import Derived.Test.YtabhplelhjcdiaaRn2
import Derived.Test.YtabhplelhjcdiaaRn0
namespace Go.Rx
variable {M : Mach}
set_option maxRecDepth 4000
set_option linter.unusedSimpArgs false
set_option linter.unusedVariables false

def spC (i : Int) : List Value := [.int .i64 (-7000 - i), .int .u64 0, .int .u64 0, .int .u64 0, .int .u64 0, .slice none 0 0]
def sps : List (List Value) := [spC 0, spC 1, spC 2]

theorem slice_to {h : Heap} {t : TypeId} {sz b len c n : Nat} {cs : List Value} {rw' : Bool} (hb : h.at b = some (.cells cs t rw')) (hn : n ≤ c) {k : IntKind} : sliceV h t sz (.slice (some ⟨b, 0, none⟩) len c) none (some (.int k n)) none = some (.slice (some ⟨b, 0, none⟩) n c) := by
  unfold sliceV
  simp only [bounds, bound_none, bound_some]
  rw [ix_ok (by omega) (by omega)]
  simp only [Int.toNat_natCast, ble_t (show 0 ≤ n by omega), ble_t hn, sameE, hb, beq_t, Bool.and_self, cond_true]
  simp
mutual
/-- A pattern's twin: each row of parts has three elements behind it; its blocks are of S. -/
def TwinC (h : Heap) (S : Nat → Prop) : RegD → List Value → Prop
  | .mk k s ps, cs => ∃ s0 s1 s2 s3 css b c, cs = rgC k s0 s1 s2 s3 (.slice (some ⟨b, 0, none⟩) css.length c) ∧ s = [s0, s1, s2, s3] ∧ (-9223372036854775808 ≤ k ∧ k ≤ 9223372036854775807) ∧ (∀ x ∈ s, 0 ≤ x ∧ x < 18446744073709551616) ∧ S b ∧ OwnN 48 6 h (.slice (some ⟨b, 0, none⟩) (css.length + 3) c) (css ++ sps) ∧ TwinL h S ps css ∧ ps.length ≤ 9223372036854775807
def TwinL (h : Heap) (S : Nat → Prop) : List RegD → List (List Value) → Prop
  | [], css => css = []
  | p :: ps, css => ∃ c cs, css = c :: cs ∧ TwinC h S p c ∧ TwinL h S ps cs
end
theorem TwinL.iff {h : Heap} {S : Nat → Prop} : ∀ {ps : List RegD} {css : List (List Value)}, TwinL h S ps css ↔ css.length = ps.length ∧ ∀ (i : Nat) p, ps[i]? = some p → TwinC h S p (css.getD i [])
  | [], css => by
    rw [TwinL]
    constructor
    · rintro rfl; exact ⟨rfl, fun i p hp => by simp at hp⟩
    · rintro ⟨h1, _⟩; exact List.length_eq_zero_iff.1 h1
  | p :: ps, css => by
    rw [TwinL]
    constructor
    · rintro ⟨c, cs, rfl, h1, h2⟩
      obtain ⟨h3, h4⟩ := TwinL.iff.1 h2
      refine ⟨by simp [h3], fun i q hq => ?_⟩
      cases i with
      | zero => simp at hq; subst hq; simpa using h1
      | succ i => simp at hq; simpa using h4 i q hq
    · rintro ⟨h1, h2⟩
      cases css with
      | nil => simp at h1
      | cons c cs =>
        refine ⟨c, cs, rfl, by simpa using h2 0 p rfl, TwinL.iff.2 ⟨by simpa using h1, fun i q hq => by simpa using h2 (i + 1) q (by simpa using hq)⟩⟩
theorem TwinC.keep {h h' : Heap} {S S' : Nat → Prop} (hn : h.next ≤ h'.next) (ha : ∀ b, S b → b < h.next → h'.at b = h.at b) (hS : ∀ b, S b → b < h.next → S' b) (r : RegD) : ∀ {cs : List Value}, TwinC h S r cs → TwinC h' S' r cs := by
  refine RegD.ind (P := fun r => ∀ {cs : List Value}, TwinC h S r cs → TwinC h' S' r cs) ?_ r
  intro k s ps ih cs hr
  rw [TwinC] at hr ⊢
  obtain ⟨s0, s1, s2, s3, css, b, c, h1, h2, h3, h4, h5, h6, h7, h8⟩ := hr
  have hb : b < h.next := h6.1
  refine ⟨s0, s1, s2, s3, css, b, c, h1, h2, h3, h4, hS b h5 hb, ?_, ?_, h8⟩
  · obtain ⟨a0, a1, ⟨a2, _⟩ | ⟨b', c', rest, a2, a3, a4, a5⟩⟩ := h6
    · cases a2
    · have e : b = b' := congrArg bno a2
      refine ⟨by show b < _; omega, a1, .inr ⟨b', c', rest, a2, a3, ?_, a5⟩⟩
      rw [← e] at a4 ⊢
      rw [ha b h5 hb]; exact a4
  · rw [TwinL.iff] at h7 ⊢
    exact ⟨h7.1, fun i p hp => ih p (List.mem_of_getElem? hp) (h7.2 i p hp)⟩
theorem TwinC.gp {h h' : Heap} {S : Nat → Prop} {r : RegD} {cs : List Value} (g : GrowP h h') (hS : ∀ b, S b → 1 ≤ b) (hr : TwinC h S r cs) : TwinC h' S r cs := TwinC.keep g.next (fun b hb hl => g.at_ b (hS b hb) hl) (fun b hb _ => hb) r hr
theorem TwinC.reg {h : Heap} {S : Nat → Prop} (r : RegD) : ∀ {cs : List Value}, TwinC h S r cs → RegC h r cs := by
  refine RegD.ind (P := fun r => ∀ {cs : List Value}, TwinC h S r cs → RegC h r cs) ?_ r
  intro k s ps ih cs hr
  rw [TwinC] at hr
  rw [RegC]
  obtain ⟨s0, s1, s2, s3, css, b, c, h1, h2, h3, h4, h5, h6, h7, h8⟩ := hr
  have hcut := SlN.cutTo h6.sl (k := .i64) (n := css.length) (by omega) (by simp; omega)
  rw [Int.toNat_natCast, List.take_left' rfl] at hcut
  obtain ⟨v', e1, e2, e3⟩ := hcut
  have hb := h6.1
  obtain ⟨a0, a1, ⟨a2, _⟩ | ⟨b', c', rest, a2, a3, a4, a5, a6⟩⟩ := h6
  · cases a2
  have hc : b = b' ∧ c = c' := ⟨congrArg bno a2, by simp only [Value.slice.injEq] at a2; exact a2.2.2⟩
  obtain ⟨rfl, rfl⟩ := hc
  refine ⟨s0, s1, s2, s3, _, css, h1, h2, h3, h4, ?_, ?_, h8⟩
  · refine ⟨hb, fun x hx => a1 x (by simp [hx]), .inr ⟨b, 0, none, c, _, _, _, rfl, a3, a4, fun _ => rfl, by simp [sps] at a6; omega, ?_⟩⟩
    rw [List.flatten_append, List.append_assoc, cut_ok (by simp [flatN (fun x hx => a1 x (List.mem_append_left _ hx))]), List.drop_zero, List.take_left' (flatN (fun x hx => a1 x (List.mem_append_left _ hx)))]
  · rw [TwinL.iff] at h7
    rw [RegL.iff]
    exact ⟨h7.1, fun i p hp => ih p (List.mem_of_getElem? hp) (h7.2 i p hp)⟩
theorem TwinL.app {h : Heap} {S : Nat → Prop} {ps : List RegD} {css : List (List Value)} {p : RegD} {c : List Value} (hl : TwinL h S ps css) (hp : TwinC h S p c) : TwinL h S (ps ++ [p]) (css ++ [c]) := by
  induction ps generalizing css with
  | nil => rw [TwinL] at hl; subst hl; exact ⟨c, [], rfl, hp, rfl⟩
  | cons q ps ih =>
    rw [TwinL] at hl
    obtain ⟨d, cs, rfl, h1, h2⟩ := hl
    rw [List.cons_append, TwinL]
    exact ⟨d, cs ++ [c], rfl, h1, ih h2⟩
theorem TwinL.keep {h h' : Heap} {S S' : Nat → Prop} (hn : h.next ≤ h'.next) (ha : ∀ b, S b → b < h.next → h'.at b = h.at b) (hS : ∀ b, S b → b < h.next → S' b) {ps : List RegD} {css : List (List Value)} (hl : TwinL h S ps css) : TwinL h' S' ps css := by
  rw [TwinL.iff] at hl ⊢
  exact ⟨hl.1, fun i p hp => TwinC.keep hn ha hS p (hl.2 i p hp)⟩

set_option maxHeartbeats 4000000 in
theorem twin_ok (hm : M.Mono) (hO : M.O 26 = none) (hF : M.F 26 = some A26) (r : RegD) : ∀ {cs : List Value} {h : Heap} {K : KF}, 1 ≤ h.next → RegC h r cs → r.size < 1000000 →
    (∀ cs' h', TwinC h' (fun b => h.next ≤ b) r cs' → GrowP h h' → K (.agg ⟨cs'⟩) h') → WF M 26 [.agg ⟨cs⟩] h K := by
  refine RegD.ind (P := fun r => ∀ {cs : List Value} {h : Heap} {K : KF}, 1 ≤ h.next → RegC h r cs → r.size < 1000000 →
    (∀ cs' h', TwinC h' (fun b => h.next ≤ b) r cs' → GrowP h h' → K (.agg ⟨cs'⟩) h') → WF M 26 [.agg ⟨cs⟩] h K) ?_ r
  intro k s ps ih cs h K h1 hr hsz hk
  rw [WF_eqT 6 hO hF]
  obtain ⟨q1, q2, q3, v, css, q4, q5, q6⟩ := hr.b
  rw [RegD.parts] at q6
  have hlb := hr.lenB
  rw [RegD.parts] at hlb
  rw [RegD.size] at hsz
  have hpl := (RegL.iff.1 q6).1
  have hsl := sizeR_len ps
  simp (maxSteps := 2000000) (disch := first | omega | assumption | (simp only [zA]; done) | (simp only [zB] <;> omega) | fail) only [Go.Rx.vi, Go.Rx.vb, Go.Rx.vstr, rxc, rxo, zC, Nat.reduceLeDiff, ↓reduceIte, Nat.reduceEqDiff, Nat.reduceAdd, Nat.reduceMul, Nat.reducePow, Int.reduceToNat, Int.reducePow, A26, R26_0, q1]
  obtain ⟨h2, e2, g2, n2, b2⟩ := boxed h cs 48
  rw [e2]
  obtain ⟨h3, e3, g3, n3, b3⟩ := boxed h2 [.int .i64 0, .int .u64 0, .int .u64 0, .int .u64 0, .int .u64 0, .slice none 0 0] 48
  rw [e3]
  have b23 : h3.at h.next = some (.cells cs 48 true) := by rw [g3.at_ _ h1 (by omega)]; exact b2
  rw [n2] at b3
  have g03 := g2.trans g3
  simp (maxSteps := 2000000) (disch := first | omega | assumption | (simp only [zA]; done) | (simp only [zB] <;> omega) | fail) only [Go.Rx.vi, Go.Rx.vb, Go.Rx.vstr, rxc, rxo, zC, Nat.reduceLeDiff, ↓reduceIte, Nat.reduceEqDiff, Nat.reduceAdd, Nat.reduceMul, Nat.reducePow, Int.reduceToNat, Int.reducePow, R26_1, R26_2]
  refine WC_bloop 6 (fun m e h' => ∃ (i : Nat) (w : Value) (dss : List (List Value)), m = css.length - i ∧ i ≤ css.length ∧ e.g 1 = .pointer (some ⟨h.next, 0, none⟩) ∧ e.g 2 = .pointer (some ⟨h.next + 1, 0, none⟩) ∧ e.g 3 = w ∧ e.g 4 = .int .i64 i ∧ (bno w = 0 ∨ h3.next ≤ bno w) ∧ OwnN 48 6 h' w dss ∧ TwinL h' (fun b => h3.next ≤ b ∧ b ≠ bno w) (ps.take i) dss ∧ GrowP h3 h')
    (fun e h' => ∃ (w : Value) (dss : List (List Value)), e.g 1 = .pointer (some ⟨h.next, 0, none⟩) ∧ e.g 2 = .pointer (some ⟨h.next + 1, 0, none⟩) ∧ e.g 3 = w ∧ (bno w = 0 ∨ h3.next ≤ bno w) ∧ OwnN 48 6 h' w dss ∧ TwinL h' (fun b => h3.next ≤ b ∧ b ≠ bno w) ps dss ∧ GrowP h3 h') ?_ ?_ ?_
  · refine ⟨_, 0, .slice none 0 0, [], rfl, by omega, ?_, ?_, ?_, ?_, .inl rfl, ⟨by show 0 < _; omega, by simp, .inl ⟨rfl, rfl⟩⟩, by simp [TwinL], .refl _⟩
    · simp (maxSteps := 2000000) (disch := first | omega | assumption | (simp only [zA]; done) | (simp only [zB] <;> omega) | fail) only [Go.Rx.vi, Go.Rx.vb, Go.Rx.vstr, rxc, rxo, zC, Nat.reduceLeDiff, ↓reduceIte, Nat.reduceEqDiff, Nat.reduceAdd, Nat.reduceMul, Nat.reducePow, Int.reduceToNat, Int.reducePow]
    · simp (maxSteps := 2000000) (disch := first | omega | assumption | (simp only [zA]; done) | (simp only [zB] <;> omega) | fail) only [Go.Rx.vi, Go.Rx.vb, Go.Rx.vstr, rxc, rxo, zC, Nat.reduceLeDiff, ↓reduceIte, Nat.reduceEqDiff, Nat.reduceAdd, Nat.reduceMul, Nat.reducePow, Int.reduceToNat, Int.reducePow]
    · simp (maxSteps := 2000000) (disch := first | omega | assumption | (simp only [zA]; done) | (simp only [zB] <;> omega) | fail) only [Go.Rx.vi, Go.Rx.vb, Go.Rx.vstr, rxc, rxo, zC, Nat.reduceLeDiff, ↓reduceIte, Nat.reduceEqDiff, Nat.reduceAdd, Nat.reduceMul, Nat.reducePow, Int.reduceToNat, Int.reducePow]
    · simp (maxSteps := 2000000) (disch := first | omega | assumption | (simp only [zA]; done) | (simp only [zB] <;> omega) | fail) only [Go.Rx.vi, Go.Rx.vb, Go.Rx.vstr, rxc, rxo, zC, Nat.reduceLeDiff, ↓reduceIte, Nat.reduceEqDiff, Nat.reduceAdd, Nat.reduceMul, Nat.reducePow, Int.reduceToNat, Int.reducePow] <;> rfl
  · rintro m e h' ⟨i, w, dss, rfl, hi, e1, e2, e3, e4, hw, own, tl, g⟩
    have d2 : h'.at h.next = _ := (g.at_ _ h1 (by omega)).trans b23
    have r2 := ((q5.gp g03).gp g).r
    have gn := g.next
    simp (maxSteps := 2000000) (disch := first | omega | assumption | (simp only [zA]; done) | (simp only [zB] <;> omega) | fail) only [Go.Rx.vi, Go.Rx.vb, Go.Rx.vstr, rxc, rxo, zC, Nat.reduceLeDiff, ↓reduceIte, Nat.reduceEqDiff, Nat.reduceAdd, Nat.reduceMul, Nat.reducePow, Int.reduceToNat, Int.reducePow, B26_0, R26_3, e1, e4, d2, q4, r2]
    refine WCond_dec (fun hc => ?_) (fun hc => ?_)
    · obtain ⟨p, hp, hpc⟩ := q6.get (i := i) (by omega)
      have hps := sizeR_get hp
      have htl := (TwinL.iff.1 tl).1
      rw [List.length_take] at htl
      simp (maxSteps := 2000000) (disch := first | omega | assumption | (simp only [zA]; done) | (simp only [zB] <;> omega) | fail) only [Go.Rx.vi, Go.Rx.vb, Go.Rx.vstr, rxc, rxo, zC, Nat.reduceLeDiff, ↓reduceIte, Nat.reduceEqDiff, Nat.reduceAdd, Nat.reduceMul, Nat.reducePow, Int.reduceToNat, Int.reducePow, R26_4, e1, e2, e3, e4, d2, q4, r2]
      refine ih p (List.mem_of_getElem? hp) (by omega) ((hpc.gp g03).gp g) (by omega) ?_
      intro cs' h5 tw g5
      have n5 := g5.next
      have tlen := (TwinC.reg p tw).len
      simp (maxSteps := 2000000) (disch := first | omega | assumption | (simp only [zA]; done) | (simp only [zB] <;> omega) | fail) only [Go.Rx.vi, Go.Rx.vb, Go.Rx.vstr, rxc, rxo, zC, Nat.reduceLeDiff, ↓reduceIte, Nat.reduceEqDiff, Nat.reduceAdd, Nat.reduceMul, Nat.reducePow, Int.reduceToNat, Int.reducePow, e1, e2, e3, e4, tlen.1, fill6 tlen.1]
      refine WI_appn1 (by omega) (by omega) (own.gp g5) tlen.1 tlen.2 (by omega) ?_
      intro w2 h6 own2 c6 b6
      have n6 := c6.next
      have hwl := own.1
      simp (maxSteps := 2000000) (disch := first | omega | assumption | (simp only [zA]; done) | (simp only [zB] <;> omega) | fail) only [Go.Rx.vi, Go.Rx.vb, Go.Rx.vstr, rxc, rxo, zC, Nat.reduceLeDiff, ↓reduceIte, Nat.reduceEqDiff, Nat.reduceAdd, Nat.reduceMul, Nat.reducePow, Int.reduceToNat, Int.reducePow, e1, e2, e3, e4, R26_5]
      have htk : ps.take (i + 1) = ps.take i ++ [p] := by rw [List.take_add_one, hp]; rfl
      refine ⟨_, ?_, i + 1, w2, dss ++ [cs'], rfl, by omega, rfl, ?_, ?_, own2, ?_, (g.trans g5).chg c6 (by omega)⟩
      · omega
      · simp
      · omega
      · rw [htk]
        refine TwinL.app ?_ ?_
        · refine TwinL.keep (by omega) (fun b hb hbl => ?_) (fun b hb hbl => ⟨hb.1, ?_⟩) tl
          · rw [c6.at_ b (by omega) hb.2, g5.at_ b (by omega) hbl]
          · have := hb.2; omega
        · refine TwinC.keep n6 (fun b hb hbl => ?_) (fun b hb hbl => ⟨by omega, ?_⟩) p tw
          · exact c6.at_ b hbl (by omega)
          · omega
    · simp (maxSteps := 2000000) (disch := first | omega | assumption | (simp only [zA]; done) | (simp only [zB] <;> omega) | fail) only [Go.Rx.vi, Go.Rx.vb, Go.Rx.vstr, rxc, rxo, zC, Nat.reduceLeDiff, ↓reduceIte, Nat.reduceEqDiff, Nat.reduceAdd, Nat.reduceMul, Nat.reducePow, Int.reduceToNat, Int.reducePow, e1, e2, e3]
      rw [List.take_of_length_le (by omega)] at tl
      exact ⟨w, dss, rfl, hw, own, tl, g⟩
  · rintro e h' ⟨w, dss, e1, e2, e3, hw, own, tl, g⟩
    have htl := (TwinL.iff.1 tl).1
    simp (maxSteps := 2000000) (disch := first | omega | assumption | (simp only [zA]; done) | (simp only [zB] <;> omega) | fail) only [Go.Rx.vi, Go.Rx.vb, Go.Rx.vstr, rxc, rxo, zC, Nat.reduceLeDiff, ↓reduceIte, Nat.reduceEqDiff, Nat.reduceAdd, Nat.reduceMul, Nat.reducePow, Int.reduceToNat, Int.reducePow, R26_6]
    refine WC_bloop 6 (fun m e h' => ∃ (i : Nat) (w : Value), m = 3 - i ∧ i ≤ 3 ∧ e.g 1 = .pointer (some ⟨h.next, 0, none⟩) ∧ e.g 2 = .pointer (some ⟨h.next + 1, 0, none⟩) ∧ e.g 3 = w ∧ e.g 5 = .int .i64 i ∧ (bno w = 0 ∨ h3.next ≤ bno w) ∧ OwnN 48 6 h' w (dss ++ sps.take i) ∧ TwinL h' (fun b => h3.next ≤ b ∧ b ≠ bno w) ps dss ∧ GrowP h3 h')
      (fun e h' => ∃ (w : Value), e.g 1 = .pointer (some ⟨h.next, 0, none⟩) ∧ e.g 2 = .pointer (some ⟨h.next + 1, 0, none⟩) ∧ e.g 3 = w ∧ (bno w = 0 ∨ h3.next ≤ bno w) ∧ OwnN 48 6 h' w (dss ++ sps) ∧ TwinL h' (fun b => h3.next ≤ b ∧ b ≠ bno w) ps dss ∧ GrowP h3 h') ?_ ?_ ?_
    · refine ⟨_, 0, w, rfl, by omega, ?_, ?_, ?_, ?_, hw, by simpa using own, tl, g⟩
      · simp (maxSteps := 2000000) (disch := first | omega | assumption | (simp only [zA]; done) | (simp only [zB] <;> omega) | fail) only [Go.Rx.vi, Go.Rx.vb, Go.Rx.vstr, rxc, rxo, zC, Nat.reduceLeDiff, ↓reduceIte, Nat.reduceEqDiff, Nat.reduceAdd, Nat.reduceMul, Nat.reducePow, Int.reduceToNat, Int.reducePow, e1]
      · simp (maxSteps := 2000000) (disch := first | omega | assumption | (simp only [zA]; done) | (simp only [zB] <;> omega) | fail) only [Go.Rx.vi, Go.Rx.vb, Go.Rx.vstr, rxc, rxo, zC, Nat.reduceLeDiff, ↓reduceIte, Nat.reduceEqDiff, Nat.reduceAdd, Nat.reduceMul, Nat.reducePow, Int.reduceToNat, Int.reducePow, e2]
      · simp (maxSteps := 2000000) (disch := first | omega | assumption | (simp only [zA]; done) | (simp only [zB] <;> omega) | fail) only [Go.Rx.vi, Go.Rx.vb, Go.Rx.vstr, rxc, rxo, zC, Nat.reduceLeDiff, ↓reduceIte, Nat.reduceEqDiff, Nat.reduceAdd, Nat.reduceMul, Nat.reducePow, Int.reduceToNat, Int.reducePow, e3]
      · simp (maxSteps := 2000000) (disch := first | omega | assumption | (simp only [zA]; done) | (simp only [zB] <;> omega) | fail) only [Go.Rx.vi, Go.Rx.vb, Go.Rx.vstr, rxc, rxo, zC, Nat.reduceLeDiff, ↓reduceIte, Nat.reduceEqDiff, Nat.reduceAdd, Nat.reduceMul, Nat.reducePow, Int.reduceToNat, Int.reducePow] <;> rfl
    · rintro m e h' ⟨i, w, rfl, hi, e1, e2, e3, e5, hw, own, tl, g⟩
      have gn := g.next
      simp (maxSteps := 2000000) (disch := first | omega | assumption | (simp only [zA]; done) | (simp only [zB] <;> omega) | fail) only [Go.Rx.vi, Go.Rx.vb, Go.Rx.vstr, rxc, rxo, zC, Nat.reduceLeDiff, ↓reduceIte, Nat.reduceEqDiff, Nat.reduceAdd, Nat.reduceMul, Nat.reducePow, Int.reduceToNat, Int.reducePow, B26_1, R26_7, e5]
      refine WCond_dec (fun hc => ?_) (fun hc => ?_)
      · have lsp : (spC i).length = 6 := rfl
        have hspi : sps.take (i + 1) = sps.take i ++ [spC i] := by
          have : i = 0 ∨ i = 1 ∨ i = 2 := by omega
          rcases this with rfl | rfl | rfl <;> rfl
        have hwl := own.1
        have ll : (dss ++ sps.take i).length ≤ 1000000 := by simp [sps]; omega
        simp (maxSteps := 2000000) (disch := first | omega | assumption | (simp only [zA]; done) | (simp only [zB] <;> omega) | fail) only [Go.Rx.vi, Go.Rx.vb, Go.Rx.vstr, rxc, rxo, zC, Nat.reduceLeDiff, ↓reduceIte, Nat.reduceEqDiff, Nat.reduceAdd, Nat.reduceMul, Nat.reducePow, Int.reduceToNat, Int.reducePow, R26_8, e1, e2, e3, e5, fill6 (cs := [.int .i64 (-7000 - (i : Int)), .int .u64 0, .int .u64 0, .int .u64 0, .int .u64 0, .slice none 0 0]) rfl]
        refine WI_appn1 (c := spC i) (by omega) (by omega) own lsp (by simp [spC, isAggV]) (by omega) ?_
        intro w2 h6 own2 c6 b6
        have n6 := c6.next
        simp (maxSteps := 2000000) (disch := first | omega | assumption | (simp only [zA]; done) | (simp only [zB] <;> omega) | fail) only [Go.Rx.vi, Go.Rx.vb, Go.Rx.vstr, rxc, rxo, zC, Nat.reduceLeDiff, ↓reduceIte, Nat.reduceEqDiff, Nat.reduceAdd, Nat.reduceMul, Nat.reducePow, Int.reduceToNat, Int.reducePow, R26_9, e1, e2, e5]
        refine ⟨_, ?_, i + 1, w2, rfl, by omega, rfl, ?_, ?_, ?_, ?_, g.chg c6 (by omega)⟩
        · omega
        · simp
        · omega
        · rw [hspi, ← List.append_assoc]; exact own2
        · refine TwinL.keep n6 (fun b hb hbl => c6.at_ b hbl hb.2) (fun b hb hbl => ⟨hb.1, ?_⟩) tl
          have := hb.2; omega
      · simp (maxSteps := 2000000) (disch := first | omega | assumption | (simp only [zA]; done) | (simp only [zB] <;> omega) | fail) only [Go.Rx.vi, Go.Rx.vb, Go.Rx.vstr, rxc, rxo, zC, Nat.reduceLeDiff, ↓reduceIte, Nat.reduceEqDiff, Nat.reduceAdd, Nat.reduceMul, Nat.reducePow, Int.reduceToNat, Int.reducePow, e1, e2, e3]
        rw [List.take_of_length_le (by simp [sps]; omega)] at own
        exact ⟨w, rfl, hw, own, tl, g⟩
    · rintro e h' ⟨w, e1, e2, e3, hw, own, tl, g⟩
      have d2 : h'.at h.next = _ := (g.at_ _ h1 (by omega)).trans b23
      have d3 : h'.at (h.next + 1) = _ := (g.at_ _ (by omega) (by omega)).trans b3
      have r2 := ((q5.gp g03).gp g).r
      have gn := g.next
      have own' := own
      obtain ⟨a0, a1, ⟨_, a2⟩ | ⟨b, c, rest, rfl, a3, a4, a5, a6⟩⟩ := own'
      · simp [sps] at a2
      · have hll : (dss ++ sps).length = css.length + 3 := by simp [sps, htl, hpl]
        have hsl2 := slice_to (sz := 6) (len := (dss ++ sps).length) (n := css.length) (c := c) (k := .i64) a4 (by omega)
        obtain ⟨z0, z1, z2, z3, zv, zcss, hcs, zs, zk, zb, _, _⟩ := hr.parts
        rw [RegD.kind] at hcs zk
        rw [RegD.set] at zs zb
        have hb1 : h.next ≠ h.next + 1 := by omega
        simp (maxSteps := 2000000) (disch := first | omega | assumption | (simp only [zA]; done) | (simp only [zB] <;> omega) | fail) only [Go.Rx.vi, Go.Rx.vb, Go.Rx.vstr, rxc, rxo, zC, Nat.reduceLeDiff, ↓reduceIte, Nat.reduceEqDiff, Nat.reduceAdd, Nat.reduceMul, Nat.reducePow, Int.reduceToNat, Int.reducePow, R26_10, e1, e2, e3, d2, q4, r2, hsl2]
        have hset : cs.set 5 (.slice (some ⟨b, 0, none⟩) css.length c) = rgC k z0 z1 z2 z3 (.slice (some ⟨b, 0, none⟩) css.length c) := by rw [hcs]; rfl
        rw [hset]
        have hbw : bno (.slice (some ⟨b, 0, none⟩) (dss ++ sps).length c) = b := rfl
        rw [hbw] at hw
        have bge : h3.next ≤ b := by omega
        obtain ⟨h5, e5, c5, n5, b5, f5⟩ : ∃ h5, h'.set h.next (some (.cells (rgC k z0 z1 z2 z3 (.slice (some ⟨b, 0, none⟩) css.length c)) 48 true)) = h5 ∧ Chg h.next h' h5 ∧ h5.next = h'.next ∧ h5.at h.next = some (.cells (rgC k z0 z1 z2 z3 (.slice (some ⟨b, 0, none⟩) css.length c)) 48 true) ∧ h5.at (h.next + 1) = h'.at (h.next + 1) :=
          ⟨_, rfl, .set, rfl, at_set_same, at_set_ne (by omega)⟩
        rw [e5]
        rw [d3] at f5
        have lr : (rgC k z0 z1 z2 z3 (.slice (some ⟨b, 0, none⟩) css.length c)).length = 6 := rfl
        have orr : allOne (rgC k z0 z1 z2 z3 (.slice (some ⟨b, 0, none⟩) css.length c)) = true := rfl
        simp (maxSteps := 2000000) (disch := first | omega | assumption | (simp only [zA]; done) | (simp only [zB] <;> omega) | fail) only [Go.Rx.vi, Go.Rx.vb, Go.Rx.vstr, rxc, rxo, zC, Nat.reduceLeDiff, ↓reduceIte, Nat.reduceEqDiff, Nat.reduceAdd, Nat.reduceMul, Nat.reducePow, Int.reduceToNat, Int.reducePow, R26_11, e1, e2, b5, f5, lr, cut_all lr, st6 lr orr]
        generalize hcc : rgC k z0 z1 z2 z3 (.slice (some ⟨b, 0, none⟩) css.length c) = cc at *
        have e2' : ∀ l, (∀ x ∈ l, x.1 ≠ 2) → (TE 6 l e).g 2 = .pointer (some ⟨h.next + 1, 0, none⟩) := by
          intro l hl
          rw [TE_g, if_neg (by omega)]; exact e2
        refine ⟨.agg ⟨cc⟩, ?_, ?_⟩
        · simp only [resV, resL, res1]
          rw [e2' _ (by simp)]
          simp only [iLoadn_ptr, at_set_same, rdB_cells, cut_all lr]
          rfl
        · have c6 : Chg (h.next + 1) h5 (h5.set (h.next + 1) (some (.cells cc 48 true))) := .set
          have gA : GrowP h h5 := (g03.trans g).chg c5 (by omega)
          refine hk _ _ ?_ (gA.chg c6 (by omega))
          rw [TwinC]
          have n6 := c6.next
          have atk : ∀ x, x ≠ h.next → x ≠ h.next + 1 → x < h'.next → (h5.set (h.next + 1) (some (.cells cc 48 true))).at x = h'.at x := fun x h1 h2 h3 => by
            rw [c6.at_ x (by omega) h2, c5.at_ x h3 h1]
          have hbl := own.1
          rw [hbw] at hbl
          have hdl : dss.length = css.length := by omega
          refine ⟨z0, z1, z2, z3, dss, b, c, by rw [← hcc, hdl], zs, zk, zb, by omega, ?_, ?_, hlb⟩
          · have o1 := OwnN.chg (OwnN.chg own c5 (by rw [hbw]; omega)) c6 (by rw [hbw]; omega)
            have e9 : (dss ++ sps).length = dss.length + 3 := by simp [sps]
            rw [e9] at o1
            exact o1
          · exact TwinL.keep (by omega) (fun x hx hxl => atk x (by omega) (by omega) hxl) (fun x hx _ => by omega) tl
end Go.Rx

namespace Go.Rx
variable {M : Mach}
set_option maxRecDepth 4000
set_option linter.unusedSimpArgs false
set_option linter.unusedVariables false

theorem own_front {h : Heap} {b n c : Nat} {css : List (List Value)} (ho : OwnN 48 6 h (.slice (some ⟨b, 0, none⟩) n c) (css ++ sps)) : SlN 48 6 h (.slice (some ⟨b, 0, none⟩) css.length c) css ∧ css.length + 3 ≤ c ∧ ∃ cs, h.at b = some (.cells cs 48 true) := by
  have hb := ho.1
  obtain ⟨a0, a1, ⟨a2, _⟩ | ⟨b', c', rest, a2, a3, a4, a5, a6⟩⟩ := ho
  · cases a2
  have hc : b = b' ∧ c = c' := ⟨congrArg bno a2, by simp only [Value.slice.injEq] at a2; exact a2.2.2⟩
  obtain ⟨rfl, rfl⟩ := hc
  refine ⟨⟨hb, fun x hx => a1 x (by simp [hx]), .inr ⟨b, 0, none, c, _, _, _, rfl, a3, a4, fun _ => rfl, by simp [sps] at a6; omega, ?_⟩⟩, by simp [sps] at a6; omega, _, a4⟩
  rw [List.flatten_append, List.append_assoc, cut_ok (by simp [flatN (fun x hx => a1 x (List.mem_append_left _ hx))]), List.drop_zero, List.take_left' (flatN (fun x hx => a1 x (List.mem_append_left _ hx)))]
theorem iCaps_sl {b n c : Nat} {h : Heap} : iCaps (.slice (some ⟨b, 0, none⟩) n c) h = some (capLB c, h) := rfl
theorem capLt {c : Nat} {m : Int} (h : m ≤ c) : binV .lss (capLB c) (.int .i64 m) = some (.bool false) := by
  show (bif ltI (.ofNat c) m then none else some (Value.bool false)) = _
  have : ltI (.ofNat c) m = false := by
    rw [ltI_eq]
    simpa using h
  rw [this]; rfl
theorem iEqaS {l : List Int} (hl : l.length = 4) {h : Heap} : iEqa [1, 1, 1, 1] true (.agg ⟨l.map (.int .u64)⟩) (.agg ⟨l.map (.int .u64)⟩) h = some (.bool false, h) := by
  match l, hl with
  | [s0, s1, s2, s3], _ =>
    have hk : sameKind .u64 .u64 = true := rfl
    unfold iEqa
    simp only [List.map_cons, List.map_nil, eqL, eqP, hk, cond_true, eqI_dec]
    simp

set_option maxHeartbeats 4000000 in
theorem left_ok (hm : M.Mono) (hO : M.O 28 = none) (hF : M.F 28 = some A28) {S : Nat → Prop} (hS : ∀ b, S b → 1 ≤ b) (r : RegD) : ∀ {ct cr : List Value} {h : Heap} {K : KF}, 1 ≤ h.next → TwinC h S r ct → RegC h r cr → r.size < 1000000 →
    (∀ h', GrowP h h' → K (.bool true) h') → WF M 28 [.agg ⟨ct⟩, .agg ⟨cr⟩] h K := by
  refine RegD.ind (P := fun r => ∀ {ct cr : List Value} {h : Heap} {K : KF}, 1 ≤ h.next → TwinC h S r ct → RegC h r cr → r.size < 1000000 →
    (∀ h', GrowP h h' → K (.bool true) h') → WF M 28 [.agg ⟨ct⟩, .agg ⟨cr⟩] h K) ?_ r
  intro k s ps ih ct cr h K h1 tw hr hsz hk
  rw [WF_eqT 9 hO hF]
  have twr := TwinC.reg _ tw
  obtain ⟨y1, y2, y3, _⟩ := twr.b
  obtain ⟨u1, u2, _⟩ := twr.cutSet
  obtain ⟨q1, q2, q3, v, pss, q4, q5, q6⟩ := hr.b
  obtain ⟨z1, z2, z3⟩ := hr.cutSet
  rw [RegD.parts] at q6
  rw [RegD.kind] at q3 y3
  rw [RegD.set] at z1 z2 u1
  rw [RegD.size] at hsz
  rw [TwinC] at tw
  obtain ⟨s0, s1, s2, s3, dss, b, c, hct, hs, _, _, hSb, own, tl, hlb⟩ := tw
  obtain ⟨slf, hcap, bcs, hbat⟩ := own_front own
  have y5 : ct[5]? = some (.slice (some ⟨b, 0, none⟩) dss.length c) := by rw [hct]; rfl
  have hpl := (RegL.iff.1 q6).1
  have htl := (TwinL.iff.1 tl).1
  have hsl := sizeR_len ps
  simp (maxSteps := 2000000) (disch := first | omega | assumption | (simp only [zA]; done) | (simp only [zB] <;> omega) | fail) only [Go.Rx.vi, Go.Rx.vb, Go.Rx.vstr, rxc, rxo, zC, Nat.reduceLeDiff, ↓reduceIte, Nat.reduceEqDiff, Nat.reduceAdd, Nat.reduceMul, Nat.reducePow, Int.reduceToNat, Int.reducePow, A28, R28_0, q1, y1]
  obtain ⟨h2, e2, g2, n2, b2⟩ := boxed h ct 48
  rw [e2]
  obtain ⟨h3, e3, g3, n3, b3⟩ := boxed h2 cr 48
  rw [e3]
  rw [n2] at b3
  have g03 := g2.trans g3
  have b23 : h3.at h.next = some (.cells ct 48 true) := by rw [g3.at_ _ h1 (by omega)]; exact b2
  have r3 := (q5.gp g03).r
  have own3 := own.gp g03
  have hbat3 : h3.at b = some (.cells bcs 48 true) := by rw [g03.at_ b (hS b hSb) own.1]; exact hbat
  have hlen : dss.length = pss.length := by omega
  simp (maxSteps := 2000000) (disch := first | omega | assumption | (simp only [zA]; done) | (simp only [zB] <;> omega) | fail) only [Go.Rx.vi, Go.Rx.vb, Go.Rx.vstr, rxc, rxo, zC, Nat.reduceLeDiff, ↓reduceIte, Nat.reduceEqDiff, Nat.reduceAdd, Nat.reduceMul, Nat.reducePow, Int.reduceToNat, Int.reducePow, R28_1, b23, b3, y3, q3, u1, z1, iEqaS z2, y5, q4, r3, iCaps_sl, hlen, capLt]
  have hsl3 : sliceV h3 48 6 (.slice (some ⟨b, 0, none⟩) pss.length c) none (some (.int .i64 ((pss.length : Int) + 3))) none = some (.slice (some ⟨b, 0, none⟩) (pss.length + 3) c) := by
    have := slice_to (sz := 6) (len := pss.length) (n := pss.length + 3) (c := c) (k := .i64) hbat3 (by omega)
    simpa using this
  rw [hlen] at own3 slf y5
  have slf3 := slf.gp g03
  simp (maxSteps := 2000000) (disch := first | omega | assumption | (simp only [zA]; done) | (simp only [zB] <;> omega) | fail) only [Go.Rx.vi, Go.Rx.vb, Go.Rx.vstr, rxc, rxo, zC, Nat.reduceLeDiff, ↓reduceIte, Nat.reduceEqDiff, Nat.reduceAdd, Nat.reduceMul, Nat.reducePow, Int.reduceToNat, Int.reducePow, R28_3, b23, b3, y5, q4, r3, hsl3, R28_4]
  have hcl : (dss ++ sps).length = pss.length + 3 := by simp [sps, hlen]
  refine WC_bloop 9 (fun m e h' => ∃ (i : Nat), m = 3 - i ∧ i ≤ 3 ∧ e.g 2 = .pointer (some ⟨h.next, 0, none⟩) ∧ e.g 3 = .pointer (some ⟨h.next + 1, 0, none⟩) ∧ e.g 5 = .slice (some ⟨b, 0, none⟩) (pss.length + 3) c ∧ e.g 6 = .int .i64 i ∧ GrowP h3 h')
    (fun e h' => e.g 2 = .pointer (some ⟨h.next, 0, none⟩) ∧ e.g 3 = .pointer (some ⟨h.next + 1, 0, none⟩) ∧ GrowP h3 h') ?_ ?_ ?_
  · refine ⟨_, 0, rfl, by omega, ?_, ?_, ?_, ?_, .refl _⟩
    · simp (maxSteps := 2000000) (disch := first | omega | assumption | (simp only [zA]; done) | (simp only [zB] <;> omega) | fail) only [Go.Rx.vi, Go.Rx.vb, Go.Rx.vstr, rxc, rxo, zC, Nat.reduceLeDiff, ↓reduceIte, Nat.reduceEqDiff, Nat.reduceAdd, Nat.reduceMul, Nat.reducePow, Int.reduceToNat, Int.reducePow]
    · simp (maxSteps := 2000000) (disch := first | omega | assumption | (simp only [zA]; done) | (simp only [zB] <;> omega) | fail) only [Go.Rx.vi, Go.Rx.vb, Go.Rx.vstr, rxc, rxo, zC, Nat.reduceLeDiff, ↓reduceIte, Nat.reduceEqDiff, Nat.reduceAdd, Nat.reduceMul, Nat.reducePow, Int.reduceToNat, Int.reducePow]
    · simp (maxSteps := 2000000) (disch := first | omega | assumption | (simp only [zA]; done) | (simp only [zB] <;> omega) | fail) only [Go.Rx.vi, Go.Rx.vb, Go.Rx.vstr, rxc, rxo, zC, Nat.reduceLeDiff, ↓reduceIte, Nat.reduceEqDiff, Nat.reduceAdd, Nat.reduceMul, Nat.reducePow, Int.reduceToNat, Int.reducePow]
    · simp (maxSteps := 2000000) (disch := first | omega | assumption | (simp only [zA]; done) | (simp only [zB] <;> omega) | fail) only [Go.Rx.vi, Go.Rx.vb, Go.Rx.vstr, rxc, rxo, zC, Nat.reduceLeDiff, ↓reduceIte, Nat.reduceEqDiff, Nat.reduceAdd, Nat.reduceMul, Nat.reducePow, Int.reduceToNat, Int.reducePow] <;> rfl
  · rintro m e h' ⟨i, rfl, hi, e2, e3, e5, e6, g⟩
    have gn := g.next
    have c3 : h'.at (h.next + 1) = _ := (g.at_ _ (by omega) (by omega)).trans b3
    have r4 := ((q5.gp g03).gp g).r
    have ro := (own3.gp g).sl.r
    rw [hcl] at ro
    simp (maxSteps := 2000000) (disch := first | omega | assumption | (simp only [zA]; done) | (simp only [zB] <;> omega) | fail) only [Go.Rx.vi, Go.Rx.vb, Go.Rx.vstr, rxc, rxo, zC, Nat.reduceLeDiff, ↓reduceIte, Nat.reduceEqDiff, Nat.reduceAdd, Nat.reduceMul, Nat.reducePow, Int.reduceToNat, Int.reducePow, B28_0, R28_5, e6]
    refine WCond_dec (fun hc => ?_) (fun hc => ?_)
    · have hspi : (dss ++ sps).getD (pss.length + i) [] = spC i := by
        rw [List.getD_eq_getElem?_getD, List.getElem?_append_right (by omega), hlen, Nat.add_sub_cancel_left]
        have : i = 0 ∨ i = 1 ∨ i = 2 := by omega
        rcases this with rfl | rfl | rfl <;> rfl
      have hix : ((pss.length : Int) + i).toNat = pss.length + i := by omega
      have lsp : (spC i).length = 6 := rfl
      have osp : allOne (spC i) = true := rfl
      simp (maxSteps := 2000000) (disch := first | omega | assumption | (simp only [zA]; done) | (simp only [zB] <;> omega) | fail) only [Go.Rx.vi, Go.Rx.vb, Go.Rx.vstr, rxc, rxo, zC, Nat.reduceLeDiff, ↓reduceIte, Nat.reduceEqDiff, Nat.reduceAdd, Nat.reduceMul, Nat.reducePow, Int.reduceToNat, Int.reducePow, R28_6, e2, e3, e5, e6, c3, q4, r4, ro, hix, hspi, lsp, st6 lsp osp]
      obtain ⟨h5, e7, g5, n5, b5⟩ := boxed2 h' [.int .i64 0, .int .u64 0, .int .u64 0, .int .u64 0, .int .u64 0, .slice none 0 0] (spC i) 48
      rw [e7]
      have sp0 : (spC i)[0]? = some (.int .i64 (-7000 - (i : Int))) := rfl
      have sp5 : (spC i)[5]? = some (.slice none 0 0) := rfl
      have lnil : ∀ h, iLens (.slice none 0 0) h = some (.int .i64 0, h) := fun _ => rfl
      simp (maxSteps := 2000000) (disch := first | omega | assumption | (simp only [zA]; done) | (simp only [zB] <;> omega) | fail) only [Go.Rx.vi, Go.Rx.vb, Go.Rx.vstr, rxc, rxo, zC, Nat.reduceLeDiff, ↓reduceIte, Nat.reduceEqDiff, Nat.reduceAdd, Nat.reduceMul, Nat.reducePow, Int.reduceToNat, Int.reducePow, R28_7, b5, sp0, sp5, e6, lnil, R28_9, e2, e3, e5]
      refine ⟨_, ?_, i + 1, rfl, by omega, ?_, g.trans g5⟩
      · omega
      · simp
    · simp (maxSteps := 2000000) (disch := first | omega | assumption | (simp only [zA]; done) | (simp only [zB] <;> omega) | fail) only [Go.Rx.vi, Go.Rx.vb, Go.Rx.vstr, rxc, rxo, zC, Nat.reduceLeDiff, ↓reduceIte, Nat.reduceEqDiff, Nat.reduceAdd, Nat.reduceMul, Nat.reducePow, Int.reduceToNat, Int.reducePow, e2, e3]
      exact g
  · rintro e h' ⟨e2, e3, g⟩
    simp (maxSteps := 2000000) (disch := first | omega | assumption | (simp only [zA]; done) | (simp only [zB] <;> omega) | fail) only [Go.Rx.vi, Go.Rx.vb, Go.Rx.vstr, rxc, rxo, zC, Nat.reduceLeDiff, ↓reduceIte, Nat.reduceEqDiff, Nat.reduceAdd, Nat.reduceMul, Nat.reducePow, Int.reduceToNat, Int.reducePow, R28_10]
    refine WC_bloop 9 (fun m e h' => ∃ (i : Nat), m = pss.length - i ∧ i ≤ pss.length ∧ e.g 2 = .pointer (some ⟨h.next, 0, none⟩) ∧ e.g 3 = .pointer (some ⟨h.next + 1, 0, none⟩) ∧ e.g 8 = .int .i64 i ∧ GrowP h3 h')
      (fun e h' => GrowP h3 h') ?_ ?_ ?_
    · refine ⟨_, 0, rfl, by omega, ?_, ?_, ?_, g⟩
      · simp (maxSteps := 2000000) (disch := first | omega | assumption | (simp only [zA]; done) | (simp only [zB] <;> omega) | fail) only [Go.Rx.vi, Go.Rx.vb, Go.Rx.vstr, rxc, rxo, zC, Nat.reduceLeDiff, ↓reduceIte, Nat.reduceEqDiff, Nat.reduceAdd, Nat.reduceMul, Nat.reducePow, Int.reduceToNat, Int.reducePow, e2]
      · simp (maxSteps := 2000000) (disch := first | omega | assumption | (simp only [zA]; done) | (simp only [zB] <;> omega) | fail) only [Go.Rx.vi, Go.Rx.vb, Go.Rx.vstr, rxc, rxo, zC, Nat.reduceLeDiff, ↓reduceIte, Nat.reduceEqDiff, Nat.reduceAdd, Nat.reduceMul, Nat.reducePow, Int.reduceToNat, Int.reducePow, e3]
      · simp (maxSteps := 2000000) (disch := first | omega | assumption | (simp only [zA]; done) | (simp only [zB] <;> omega) | fail) only [Go.Rx.vi, Go.Rx.vb, Go.Rx.vstr, rxc, rxo, zC, Nat.reduceLeDiff, ↓reduceIte, Nat.reduceEqDiff, Nat.reduceAdd, Nat.reduceMul, Nat.reducePow, Int.reduceToNat, Int.reducePow] <;> rfl
    · rintro m e h' ⟨i, rfl, hi, e2, e3, e8, g⟩
      have gn := g.next
      have c2 : h'.at h.next = _ := (g.at_ _ (by omega) (by omega)).trans b23
      have c3 : h'.at (h.next + 1) = _ := (g.at_ _ (by omega) (by omega)).trans b3
      have r4 := ((q5.gp g03).gp g).r
      have rt := (slf3.gp g).r
      rw [hlen] at rt
      simp (maxSteps := 2000000) (disch := first | omega | assumption | (simp only [zA]; done) | (simp only [zB] <;> omega) | fail) only [Go.Rx.vi, Go.Rx.vb, Go.Rx.vstr, rxc, rxo, zC, Nat.reduceLeDiff, ↓reduceIte, Nat.reduceEqDiff, Nat.reduceAdd, Nat.reduceMul, Nat.reducePow, Int.reduceToNat, Int.reducePow, B28_1, R28_11, e3, e8, c3, q4, r4]
      refine WCond_dec (fun hc => ?_) (fun hc => ?_)
      · obtain ⟨p, hp, hpc⟩ := q6.get (i := i) (by omega)
        have hps := sizeR_get hp
        have htp := (TwinL.iff.1 tl).2 i p hp
        simp (maxSteps := 2000000) (disch := first | omega | assumption | (simp only [zA]; done) | (simp only [zB] <;> omega) | fail) only [Go.Rx.vi, Go.Rx.vb, Go.Rx.vstr, rxc, rxo, zC, Nat.reduceLeDiff, ↓reduceIte, Nat.reduceEqDiff, Nat.reduceAdd, Nat.reduceMul, Nat.reducePow, Int.reduceToNat, Int.reducePow]
        refine WC_regd0 hm ?_
        simp (maxSteps := 2000000) (disch := first | omega | assumption | (simp only [zA]; done) | (simp only [zB] <;> omega) | fail) only [Go.Rx.vi, Go.Rx.vb, Go.Rx.vstr, rxc, rxo, zC, Nat.reduceLeDiff, ↓reduceIte, Nat.reduceEqDiff, Nat.reduceAdd, Nat.reduceMul, Nat.reducePow, Int.reduceToNat, Int.reducePow, R28_12, e2, e3, e8, c2, c3, y5, q4, r4, rt]
        refine ih p (List.mem_of_getElem? hp) (by omega) (TwinC.gp g hS (TwinC.gp g03 hS htp)) ((hpc.gp g03).gp g) (by omega) ?_
        intro h5 g5
        simp (maxSteps := 2000000) (disch := first | omega | assumption | (simp only [zA]; done) | (simp only [zB] <;> omega) | fail) only [Go.Rx.vi, Go.Rx.vb, Go.Rx.vstr, rxc, rxo, zC, Nat.reduceLeDiff, ↓reduceIte, Nat.reduceEqDiff, Nat.reduceAdd, Nat.reduceMul, Nat.reducePow, Int.reduceToNat, Int.reducePow, R28_14, e2, e3, e8]
        refine ⟨_, ?_, i + 1, rfl, by omega, ?_, g.trans g5⟩
        · omega
        · simp
      · simp (maxSteps := 2000000) (disch := first | omega | assumption | (simp only [zA]; done) | (simp only [zB] <;> omega) | fail) only [Go.Rx.vi, Go.Rx.vb, Go.Rx.vstr, rxc, rxo, zC, Nat.reduceLeDiff, ↓reduceIte, Nat.reduceEqDiff, Nat.reduceAdd, Nat.reduceMul, Nat.reducePow, Int.reduceToNat, Int.reducePow]
        exact g
    · rintro e h' g
      simp (maxSteps := 2000000) (disch := first | omega | assumption | (simp only [zA]; done) | (simp only [zB] <;> omega) | fail) only [Go.Rx.vi, Go.Rx.vb, Go.Rx.vstr, rxc, rxo, zC, Nat.reduceLeDiff, ↓reduceIte, Nat.reduceEqDiff, Nat.reduceAdd, Nat.reduceMul, Nat.reducePow, Int.reduceToNat, Int.reducePow, R28_15]
      exact hk _ (g03.trans g)
end Go.Rx

namespace Go.Rx
variable {M : Mach}
set_option maxRecDepth 4000
set_option linter.unusedSimpArgs false
set_option linter.unusedVariables false

structure RefF (M : Mach) : Prop where
  law : LawF M
  ends : REndsF M
  o21 : M.O 21 = none
  f21 : M.F 21 = some A21
  o48 : M.O 48 = none
  f48 : M.F 48 = some A48
  o49 : M.O 49 = none
  f49 : M.F 49 = some A49
  o50 : M.O 50 = none
  f50 : M.F 50 = some A50
  o27 : M.O 27 = none
  f27 : M.F 27 = some A27
  o26 : M.O 26 = none
  f26 : M.F 26 = some A26
  o28 : M.O 28 = none
  f28 : M.F 28 = some A28

set_option maxHeartbeats 4000000 in
theorem matches6_ok (m : RefF M) (hO : M.O 6 = none) (hF : M.F 6 = some A6) {r : RegD} {cs : List Value} {t : List UInt8} {h : Heap} {K : KF} (h1 : 1 ≤ h.next) (hr : RegC h r cs) (htl : t.length ≤ 9223372036854775807)
  (hk : ∀ h', K (.bool true) h') : WF M 6 [.agg ⟨cs⟩, vstr t] h K := by
  rw [WF_eqT 11 hO hF]
  obtain ⟨q1, q2, q3, pv, pss, q4, q5, q6⟩ := hr.b
  simp (maxSteps := 2000000) (disch := first | omega | assumption | (simp only [zA]; done) | (simp only [zB] <;> omega) | fail) only [Go.Rx.vi, Go.Rx.vb, Go.Rx.vstr, rxc, rxo, zC, Nat.reduceLeDiff, ↓reduceIte, Nat.reduceEqDiff, Nat.reduceAdd, Nat.reduceMul, Nat.reducePow, Int.reduceToNat, Int.reducePow, A6, R6_0, q1]
  obtain ⟨h2, e2, g2, n2, b2⟩ := boxed h cs 48
  rw [e2]
  simp (maxSteps := 2000000) (disch := first | omega | assumption | (simp only [zA]; done) | (simp only [zB] <;> omega) | fail) only [Go.Rx.vi, Go.Rx.vb, Go.Rx.vstr, rxc, rxo, zC, Nat.reduceLeDiff, ↓reduceIte, Nat.reduceEqDiff, Nat.reduceAdd, Nat.reduceMul, Nat.reducePow, Int.reduceToNat, Int.reducePow, R6_1, b2, q1, cut_all q1]
  refine rcheck_ok m.law.mono m.o21 m.f21 m.o48 m.f48 m.o49 m.f49 m.o50 m.f50 (by omega) (hr.gp g2) ?_
  intro h3 g3
  have n3 := g3.next
  have g03 := g2.trans g3
  have b3 : h3.at h.next = _ := (g3.at_ _ h1 (by omega)).trans b2
  have bad : ∀ (e : Env) (f : Int), matE r t = f → f ≠ 0 → e.g 1 = vstr t → e.g 2 = .pointer (some ⟨h.next, 0, none⟩) → e.g 5 = .int .i64 f → WB M R6_5 e h3 (SeqK M (.seq (.reg R6_6) .ret) (SeqK M (.seq (.seq (.reg R6_7) (.cond (.t 48) (.seq (.reg R6_8) .ret) .skip)) (.seq (.reg R6_9) (.seq (.reg R6_10) (.seq (.reg R6_11) .ret)))) (FunK [(4, none)] K)) .normal) := by
    intro e f hf hne e1 e2 e5
    rw [← TE_nil (n := 11) (e := e)]
    simp (maxSteps := 2000000) (disch := first | omega | assumption | (simp only [zA]; done) | (simp only [zB] <;> omega) | fail) only [Go.Rx.vi, Go.Rx.vb, Go.Rx.vstr, rxc, rxo, zC, Nat.reduceLeDiff, ↓reduceIte, Nat.reduceEqDiff, Nat.reduceAdd, Nat.reduceMul, Nat.reducePow, Int.reduceToNat, Int.reducePow, R6_5, e1, e2, b3, q1, cut_all q1]
    refine matches_ok m.law.toMatF (by omega) (hr.gp g03) htl ?_
    intro b h4 g4 hb
    have hbf : b = false := by
      cases b with
      | false => rfl
      | true => have := (hb.1 rfl).1; omega
    subst hbf
    simp (maxSteps := 2000000) (disch := first | omega | assumption | (simp only [zA]; done) | (simp only [zB] <;> omega) | fail) only [Go.Rx.vi, Go.Rx.vb, Go.Rx.vstr, rxc, rxo, zC, Nat.reduceLeDiff, ↓reduceIte, Nat.reduceEqDiff, Nat.reduceAdd, Nat.reduceMul, Nat.reducePow, Int.reduceToNat, Int.reducePow, R6_6, e5, hf]
    refine WF_true m.law.o23 ?_
    simp (maxSteps := 2000000) (disch := first | omega | assumption | (simp only [zA]; done) | (simp only [zB] <;> omega) | fail) only [Go.Rx.vi, Go.Rx.vb, Go.Rx.vstr, rxc, rxo, zC, Nat.reduceLeDiff, ↓reduceIte, Nat.reduceEqDiff, Nat.reduceAdd, Nat.reduceMul, Nat.reducePow, Int.reduceToNat, Int.reducePow]
    exact hk _
  simp (maxSteps := 2000000) (disch := first | omega | assumption | (simp only [zA]; done) | (simp only [zB] <;> omega) | fail) only [Go.Rx.vi, Go.Rx.vb, Go.Rx.vstr, rxc, rxo, zC, Nat.reduceLeDiff, ↓reduceIte, Nat.reduceEqDiff, Nat.reduceAdd, Nat.reduceMul, Nat.reducePow, Int.reduceToNat, Int.reducePow, R6_2]
  by_cases hc : r.chk = 0
  · simp only [hc, not_true_eq_false, decide_false]
    simp (maxSteps := 2000000) (disch := first | omega | assumption | (simp only [zA]; done) | (simp only [zB] <;> omega) | fail) only [Go.Rx.vi, Go.Rx.vb, Go.Rx.vstr, rxc, rxo, zC, Nat.reduceLeDiff, ↓reduceIte, Nat.reduceEqDiff, Nat.reduceAdd, Nat.reduceMul, Nat.reducePow, Int.reduceToNat, Int.reducePow]
    by_cases hl : (65536 : Int) < t.length
    · simp only [hl, decide_true]
      simp (maxSteps := 2000000) (disch := first | omega | assumption | (simp only [zA]; done) | (simp only [zB] <;> omega) | fail) only [Go.Rx.vi, Go.Rx.vb, Go.Rx.vstr, rxc, rxo, zC, Nat.reduceLeDiff, ↓reduceIte, Nat.reduceEqDiff, Nat.reduceAdd, Nat.reduceMul, Nat.reducePow, Int.reduceToNat, Int.reducePow, R6_3, hc, R6_4]
      refine bad _ 3 ?_ (by omega) (by simp (maxSteps := 2000000) (disch := first | omega | assumption | (simp only [zA]; done) | (simp only [zB] <;> omega) | fail) only [Go.Rx.vi, Go.Rx.vb, Go.Rx.vstr, rxc, rxo, zC, Nat.reduceLeDiff, ↓reduceIte, Nat.reduceEqDiff, Nat.reduceAdd, Nat.reduceMul, Nat.reducePow, Int.reduceToNat, Int.reducePow]) (by simp (maxSteps := 2000000) (disch := first | omega | assumption | (simp only [zA]; done) | (simp only [zB] <;> omega) | fail) only [Go.Rx.vi, Go.Rx.vb, Go.Rx.vstr, rxc, rxo, zC, Nat.reduceLeDiff, ↓reduceIte, Nat.reduceEqDiff, Nat.reduceAdd, Nat.reduceMul, Nat.reducePow, Int.reduceToNat, Int.reducePow]) (by simp (maxSteps := 2000000) (disch := first | omega | assumption | (simp only [zA]; done) | (simp only [zB] <;> omega) | fail) only [Go.Rx.vi, Go.Rx.vb, Go.Rx.vstr, rxc, rxo, zC, Nat.reduceLeDiff, ↓reduceIte, Nat.reduceEqDiff, Nat.reduceAdd, Nat.reduceMul, Nat.reducePow, Int.reduceToNat, Int.reducePow])
      unfold matE
      rw [if_neg (by omega), if_pos (by omega)]
    · simp only [hl, decide_false]
      obtain ⟨c1, c2, c3⟩ := RegD.chk0 hc
      simp (maxSteps := 2000000) (disch := first | omega | assumption | (simp only [zA]; done) | (simp only [zB] <;> omega) | fail) only [Go.Rx.vi, Go.Rx.vb, Go.Rx.vstr, rxc, rxo, zC, Nat.reduceLeDiff, ↓reduceIte, Nat.reduceEqDiff, Nat.reduceAdd, Nat.reduceMul, Nat.reducePow, Int.reduceToNat, Int.reducePow, R6_7]
      by_cases h120 : (120 : Int) < t.length
      · simp only [h120, decide_true]
        simp (maxSteps := 2000000) (disch := first | omega | assumption | (simp only [zA]; done) | (simp only [zB] <;> omega) | fail) only [Go.Rx.vi, Go.Rx.vb, Go.Rx.vstr, rxc, rxo, zC, Nat.reduceLeDiff, ↓reduceIte, Nat.reduceEqDiff, Nat.reduceAdd, Nat.reduceMul, Nat.reducePow, Int.reduceToNat, Int.reducePow, R6_8]
        exact hk _
      · simp only [h120, decide_false]
        simp (maxSteps := 2000000) (disch := first | omega | assumption | (simp only [zA]; done) | (simp only [zB] <;> omega) | fail) only [Go.Rx.vi, Go.Rx.vb, Go.Rx.vstr, rxc, rxo, zC, Nat.reduceLeDiff, ↓reduceIte, Nat.reduceEqDiff, Nat.reduceAdd, Nat.reduceMul, Nat.reducePow, Int.reduceToNat, Int.reducePow, b3, q1, cut_all q1]
        refine big_ok (n := 120) m.law.mono m.law.o24 m.law.f24 (by omega) (hr.gp g03) (by omega) (by omega) ?_
        intro b h4 g4
        have n4 := g4.next
        have b4 : h4.at h.next = _ := (g4.at_ _ h1 (by omega)).trans b3
        cases b with
        | true =>
          simp (maxSteps := 2000000) (disch := first | omega | assumption | (simp only [zA]; done) | (simp only [zB] <;> omega) | fail) only [Go.Rx.vi, Go.Rx.vb, Go.Rx.vstr, rxc, rxo, zC, Nat.reduceLeDiff, ↓reduceIte, Nat.reduceEqDiff, Nat.reduceAdd, Nat.reduceMul, Nat.reducePow, Int.reduceToNat, Int.reducePow, R6_8]
          exact hk _
        | false =>
          simp (maxSteps := 2000000) (disch := first | omega | assumption | (simp only [zA]; done) | (simp only [zB] <;> omega) | fail) only [Go.Rx.vi, Go.Rx.vb, Go.Rx.vstr, rxc, rxo, zC, Nat.reduceLeDiff, ↓reduceIte, Nat.reduceEqDiff, Nat.reduceAdd, Nat.reduceMul, Nat.reducePow, Int.reduceToNat, Int.reducePow, b4, q1, cut_all q1]
          refine nested_ok m.law.mono m.law.o25 m.law.f25 r (by omega) ((hr.gp g03).gp g4) (by omega) (by omega) ?_
          intro b h5 g5
          have n5 := g5.next
          have b5 : h5.at h.next = _ := (g5.at_ _ h1 (by omega)).trans b4
          cases b with
          | true =>
            simp (maxSteps := 2000000) (disch := first | omega | assumption | (simp only [zA]; done) | (simp only [zB] <;> omega) | fail) only [Go.Rx.vi, Go.Rx.vb, Go.Rx.vstr, rxc, rxo, zC, Nat.reduceLeDiff, ↓reduceIte, Nat.reduceEqDiff, Nat.reduceAdd, Nat.reduceMul, Nat.reducePow, Int.reduceToNat, Int.reducePow, R6_8]
            exact hk _
          | false =>
            have g05 := (g03.trans g4).trans g5
            simp (maxSteps := 2000000) (disch := first | omega | assumption | (simp only [zA]; done) | (simp only [zB] <;> omega) | fail) only [Go.Rx.vi, Go.Rx.vb, Go.Rx.vstr, rxc, rxo, zC, Nat.reduceLeDiff, ↓reduceIte, Nat.reduceEqDiff, Nat.reduceAdd, Nat.reduceMul, Nat.reducePow, Int.reduceToNat, Int.reducePow, R6_9, b5, q1, cut_all q1]
            refine twin_ok m.law.mono m.o26 m.f26 r (by omega) (hr.gp g05) (by omega) ?_
            intro ct h6 tw g6
            have n6 := g6.next
            have hS : ∀ b, h5.next ≤ b → 1 ≤ b := fun b hb => by omega
            have twr := TwinC.reg r tw
            obtain ⟨t1, t2, _⟩ := twr.b
            have b6 : h6.at h.next = _ := (g6.at_ _ h1 (by omega)).trans b5
            simp (maxSteps := 2000000) (disch := first | omega | assumption | (simp only [zA]; done) | (simp only [zB] <;> omega) | fail) only [Go.Rx.vi, Go.Rx.vb, Go.Rx.vstr, rxc, rxo, zC, Nat.reduceLeDiff, ↓reduceIte, Nat.reduceEqDiff, Nat.reduceAdd, Nat.reduceMul, Nat.reducePow, Int.reduceToNat, Int.reducePow, t1, st6 t1 t2]
            obtain ⟨h7, e7, g7, n7, b7⟩ := boxed2 h6 [.int .i64 0, .int .u64 0, .int .u64 0, .int .u64 0, .int .u64 0, .slice none 0 0] ct 48
            rw [e7]
            have tw7 := TwinC.gp g7 hS tw
            simp (maxSteps := 2000000) (disch := first | omega | assumption | (simp only [zA]; done) | (simp only [zB] <;> omega) | fail) only [Go.Rx.vi, Go.Rx.vb, Go.Rx.vstr, rxc, rxo, zC, Nat.reduceLeDiff, ↓reduceIte, Nat.reduceEqDiff, Nat.reduceAdd, Nat.reduceMul, Nat.reducePow, Int.reduceToNat, Int.reducePow, R6_10, b7, t1, cut_all t1]
            refine matches_ok m.law.toMatF (by omega) (TwinC.reg r tw7) (by omega) ?_
            intro ba h8 g8 ia
            have n8 := g8.next
            have tw8 := TwinC.gp g8 hS tw7
            have b8 : h8.at h.next = _ := ((g7.trans g8).at_ _ h1 (by omega)).trans b6
            have b78 : h8.at h6.next = _ := (g8.at_ _ (by omega) (by omega)).trans b7
            have g08 := ((g05.trans g6).trans g7).trans g8
            have hmat : matE r t = 0 := by
              unfold matE
              rw [if_neg (by omega), if_neg (by omega)]
            rw [hmat] at ia
            simp (maxSteps := 2000000) (disch := first | omega | assumption | (simp only [zA]; done) | (simp only [zB] <;> omega) | fail) only [Go.Rx.vi, Go.Rx.vb, Go.Rx.vstr, rxc, rxo, zC, Nat.reduceLeDiff, ↓reduceIte, Nat.reduceEqDiff, Nat.reduceAdd, Nat.reduceMul, Nat.reducePow, Int.reduceToNat, Int.reducePow, R6_11, b8, q1, cut_all q1, hmat]
            refine whole_ok m.ends m.o27 m.f27 (by omega) (by omega) (hr.gp g08) c3 (by omega) ?_
            intro bb h9 g9 ib
            have n9 := g9.next
            have b9 : h9.at h.next = _ := (g9.at_ _ h1 (by omega)).trans b8
            have b79 : h9.at h6.next = _ := (g9.at_ _ (by omega) (by omega)).trans b78
            have hab : bb = ba := Bool.eq_iff_iff.2 (by rw [ia, ib]; simp)
            subst hab
            have eqb : ∀ (b : Bool) (h : Heap), iEqc 0 false (.bool b) (.bool b) h = some (.bool true, h) := by
              intro b h; cases b <;> rfl
            simp (maxSteps := 2000000) (disch := first | omega | assumption | (simp only [zA]; done) | (simp only [zB] <;> omega) | fail) only [Go.Rx.vi, Go.Rx.vb, Go.Rx.vstr, rxc, rxo, zC, Nat.reduceLeDiff, ↓reduceIte, Nat.reduceEqDiff, Nat.reduceAdd, Nat.reduceMul, Nat.reducePow, Int.reduceToNat, Int.reducePow, eqb, b9, b79, q1, cut_all q1, t1, cut_all t1]
            refine left_ok m.law.mono m.o28 m.f28 hS r (by omega) (TwinC.gp g9 hS tw8) ((hr.gp g08).gp g9) (by omega) ?_
            intro h10 g10
            simp (maxSteps := 2000000) (disch := first | omega | assumption | (simp only [zA]; done) | (simp only [zB] <;> omega) | fail) only [Go.Rx.vi, Go.Rx.vb, Go.Rx.vstr, rxc, rxo, zC, Nat.reduceLeDiff, ↓reduceIte, Nat.reduceEqDiff, Nat.reduceAdd, Nat.reduceMul, Nat.reducePow, Int.reduceToNat, Int.reducePow]
            refine WF_true m.law.o23 ?_
            simp (maxSteps := 2000000) (disch := first | omega | assumption | (simp only [zA]; done) | (simp only [zB] <;> omega) | fail) only [Go.Rx.vi, Go.Rx.vb, Go.Rx.vstr, rxc, rxo, zC, Nat.reduceLeDiff, ↓reduceIte, Nat.reduceEqDiff, Nat.reduceAdd, Nat.reduceMul, Nat.reducePow, Int.reduceToNat, Int.reducePow]
            exact hk _
  · simp only [hc, not_false_eq_true, decide_true]
    simp (maxSteps := 2000000) (disch := first | omega | assumption | (simp only [zA]; done) | (simp only [zB] <;> omega) | fail) only [Go.Rx.vi, Go.Rx.vb, Go.Rx.vstr, rxc, rxo, zC, Nat.reduceLeDiff, ↓reduceIte, Nat.reduceEqDiff, Nat.reduceAdd, Nat.reduceMul, Nat.reducePow, Int.reduceToNat, Int.reducePow, R6_3]
    refine bad _ r.chk ?_ hc (by simp (maxSteps := 2000000) (disch := first | omega | assumption | (simp only [zA]; done) | (simp only [zB] <;> omega) | fail) only [Go.Rx.vi, Go.Rx.vb, Go.Rx.vstr, rxc, rxo, zC, Nat.reduceLeDiff, ↓reduceIte, Nat.reduceEqDiff, Nat.reduceAdd, Nat.reduceMul, Nat.reducePow, Int.reduceToNat, Int.reducePow]) (by simp (maxSteps := 2000000) (disch := first | omega | assumption | (simp only [zA]; done) | (simp only [zB] <;> omega) | fail) only [Go.Rx.vi, Go.Rx.vb, Go.Rx.vstr, rxc, rxo, zC, Nat.reduceLeDiff, ↓reduceIte, Nat.reduceEqDiff, Nat.reduceAdd, Nat.reduceMul, Nat.reducePow, Int.reduceToNat, Int.reducePow]) (by simp (maxSteps := 2000000) (disch := first | omega | assumption | (simp only [zA]; done) | (simp only [zB] <;> omega) | fail) only [Go.Rx.vi, Go.Rx.vb, Go.Rx.vstr, rxc, rxo, zC, Nat.reduceLeDiff, ↓reduceIte, Nat.reduceEqDiff, Nat.reduceAdd, Nat.reduceMul, Nat.reducePow, Int.reduceToNat, Int.reducePow])
    unfold matE
    rw [if_pos hc]
end Go.Rx
