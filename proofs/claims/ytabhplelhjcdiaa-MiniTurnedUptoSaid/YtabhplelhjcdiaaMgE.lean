/- Contracts of functions of the given program, over the abstract machine. -/
import Derived.Test.YtabhplelhjcdiaaMgD
namespace Go.Rx
variable {M : Mach}
set_option maxRecDepth 4000
set_option linter.unusedSimpArgs false
set_option linter.unusedVariables false

theorem DfaV.gp {h h' : Heap} {S : Nat → Prop} {v vn vr : Value} {us : List Value} {d : DfaD} (hd : DfaV h S v vn vr us d) (g : GrowP h h') : DfaV h' S v vn vr us d :=
  ⟨hd.val, hd.cls, hd.byte, ⟨hd.next.sl.gp g, hd.next.len, fun i hi => (hd.next.row i hi).gp g, hd.next.foot⟩, hd.rule.gp g, hd.footn, hd.footr, hd.size⟩
theorem dfa_fill0 {vn vr : Value} {pl : List Int} {s x : Int} (hp : pl.length = 256) {e : Env} {r : List (Nat × Nat × Opd)} : fillQ e (dfaC s pl vn vr) 0 (some [.int .i64 x]) r = fillP e (dfaC x pl vn vr) r := by
  rw [fillQ_one (by rw [dfaC_len hp]; omega)]; rfl
theorem dfa_fill257 {vn vr x : Value} {pl : List Int} {s : Int} (hp : pl.length = 256) {e : Env} {r : List (Nat × Nat × Opd)} : fillQ e (dfaC s pl vn vr) 257 (some [x]) r = fillP e (dfaC s pl x vr) r := by
  rw [fillQ_one (by rw [dfaC_len hp]; omega), dfaC_set257 hp]
theorem dfa_fill258 {vn vr x : Value} {pl : List Int} {s : Int} (hp : pl.length = 256) {e : Env} {r : List (Nat × Nat × Opd)} : fillQ e (dfaC s pl vn vr) 258 (some [x]) r = fillP e (dfaC s pl vn x) r := by
  rw [fillQ_one (by rw [dfaC_len hp]; omega), dfaC_set258 hp]
theorem tmod_nat {a n : Nat} (hn : 0 < n) : ∃ b : Nat, b < n ∧ (a : Int).tmod n = b := ⟨a % n, Nat.mod_lt _ hn, by simp [Int.tmod]⟩

end Go.Rx

namespace Go.Rx
set_option linter.unusedSimpArgs false
set_option linter.unusedVariables false

abbrev dfaR : Repr (Int × List Int × List (List Int) × List Int × Unit) := pairR 1 (intR .i64) (pairR 256 (arrR (intR .u8) 256) (pairR 1 (slR 32 (slR 3 (intR .i64))) (pairR 1 (slR 3 (intR .i64)) nilR)))
theorem dfaR_mono : RMono dfaR := pairR_mono (intR_mono _) (pairR_mono (arrR_mono (intR_mono _)) (pairR_mono (slR_mono (slR_mono (intR_mono _))) (pairR_mono (slR_mono (intR_mono _)) nilR_mono)))
def dfaB (x : Int × List Int × List (List Int) × List Int × Unit) : Nat := 1 + ((x.2.1.map fun _ => 1).sum + 1) + ((x.2.2.1.map fun l => (l.map fun _ => 1).sum + 1).sum + 1) + ((x.2.2.2.1.map fun _ => 1).sum + 1) + 1
theorem sum_ones {α : Type} : ∀ l : List α, (l.map fun _ => 1).sum = l.length
  | [] => rfl
  | x :: l => by simp only [List.map_cons, List.sum_cons, List.length_cons, sum_ones l]; omega
theorem sum_ge {α : Type} {f : α → Nat} (h1 : ∀ x, 1 ≤ f x) : ∀ l : List α, l.length ≤ (l.map f).sum ∧ ∀ x ∈ l, f x ≤ (l.map f).sum
  | [] => ⟨Nat.le_refl _, fun x h => by simp at h⟩
  | x :: l => by
    obtain ⟨a, b⟩ := sum_ge h1 l
    have := h1 x
    refine ⟨by simp only [List.map_cons, List.sum_cons, List.length_cons]; omega, fun y hy => ?_⟩
    simp only [List.map_cons, List.sum_cons]
    rcases List.mem_cons.1 hy with rfl | hy
    · omega
    · have := b y hy; omega
theorem arr_int {H : Heap} {cs : List Value} {l : List Int} {N : Nat} {k : IntKind} (h : arrR (intR k) N H cs l) : cs = l.map (.int k) ∧ l.length = N ∧ ∀ x ∈ l, k.min ≤ x ∧ x ≤ k.max := by
  obtain ⟨css, rfl, h1, h2⟩ := h
  obtain ⟨e1, e2⟩ := RL_int h1
  exact ⟨e1, h2, e2⟩
theorem dfaV_of {H : Heap} {v : Value} {x : Int × List Int × List (List Int) × List Int × Unit} (h1 : 1 ≤ H.next) (h : aggV dfaR H v x) (hb : dfaB x ≤ 1048576) : ∃ vn vr us, DfaV H (· < H.next) v vn vr us ⟨x.1, x.2.1, x.2.2.1, x.2.2.2.1⟩ := by
  obtain ⟨s, cls, next, rule, u⟩ := x
  obtain ⟨cs, rfl, c0, r0, rfl, ⟨rfl, _, _⟩, c1, r1, rfl, h2, c2, r2, rfl, h3, c3, r3, rfl, h4, rfl⟩ := h
  obtain ⟨rfl, hc, hr⟩ := arr_int h2
  simp only at h2 h3 h4 hc hr ⊢
  obtain ⟨vn, rfl⟩ : ∃ vn, c2 = [vn] := by rcases h3 with ⟨rfl, _⟩ | ⟨_, _, _, rfl, _⟩ <;> exact ⟨_, rfl⟩
  obtain ⟨vr, rfl⟩ : ∃ vr, c3 = [vr] := by rcases h4 with ⟨rfl, _⟩ | ⟨_, _, _, rfl, _⟩ <;> exact ⟨_, rfl⟩
  obtain ⟨us, hus⟩ := slR_rows h1 h3
  obtain ⟨hrl, _⟩ := slR_sl h1 h4
  unfold dfaB at hb
  simp only [sum_ones] at hb
  obtain ⟨q1, q2⟩ := sum_ge (f := fun l : List Int => l.length + 1) (fun l => by omega) next
  refine ⟨vn, vr, us, rfl, hc, fun i hi => ?_, hus, hrl, hus.sl.1, hrl.1, by show next.length < _; omega, by show rule.length < _; omega, fun i hi => ?_⟩
  · have := hr _ (getD_mem (l := cls) (i := i) (by omega))
    have e1 : IntKind.u8.min = 0 := by decide
    have e2 : IntKind.u8.max = 255 := by decide
    rw [e1, e2] at this
    show 0 ≤ cls.getD i 0 ∧ cls.getD i 0 < 256
    omega
  · have hm : next.getD i [] ∈ next := by rw [List.getD_eq_getElem?_getD, List.getElem?_eq_getElem hi]; exact List.getElem_mem hi
    have := q2 _ hm
    show (next.getD i []).length < _
    omega
end Go.Rx
