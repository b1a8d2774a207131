/- The table of the functions; the trial, told; patterns that came in. -/
import Derived.Test.YtabhplelhjcdiaaRows
import Derived.ProofKit
import Derived.Recover
import Derived.Test.YtabhplelhjcdiaaRhRun
import Derived.Test.YtabhplelhjcdiaaRn0
namespace Go.Proofs.Ytabhplelhjcdiaa.Regs
open Go.Rx Go.ChangeShapes Go.WideShapes Go.ChangeAt Go.RowKit Go.WideElems
set_option linter.unusedVariables false
set_option linter.unusedSimpArgs false

theorem own : ownKnob Try.prog.godebug = none := by kernel_rfl
theorem deep : 50 ≤ Try.prog.depth := by decide +kernel
theorem follows : Try.prog.follows .mixedOrders = true := by kernel_rfl

theorem idle58 : Idle Try.prog 58 := by
  refine ⟨⟨_, Try.func58, by decide +kernel, rfl⟩, fun x y z w => ?_⟩
  refine callsD_of_wpS Try.func58 rfl fun c₀ cs hu => ?_
  apply wpS_seq
  apply wpS_region
  simp [wpOpsS, go_sem, recoverD, hu, Try.ntmps58, Exit.thenS]
  apply wpS_seq
  apply wpS_region
  simp [wpOpsS, go_sem, recoverD, hu, Try.ntmps58, Exit.thenS]
  refine wpS_cond (t := false) (by simp [Act.eval, Array.replicate]) ?_
  simp only [Bool.false_eq_true, if_false]
  refine wpS_of_wp (wp_skip ?_)
  cases c₀
  simp_all [bodyPostS, results, Try.results58]

theorem tableFA : TableOk Try.prog FA := by
  refine tabF_ok fun p hp => ?_
  simp only [List.mem_cons, List.not_mem_nil, or_false] at hp
  rcases hp with rfl | rfl | rfl | rfl | rfl | rfl | rfl | rfl | rfl | rfl | rfl | rfl | rfl | rfl | rfl | rfl | rfl | rfl | rfl | rfl | rfl | rfl | rfl | rfl | rfl | rfl | rfl | rfl | rfl | rfl | rfl | rfl | rfl | rfl | rfl | rfl | rfl | rfl | rfl | rfl | rfl
  all_goals kernel_rfl
theorem df31 : dfOf Try.prog 31 = some D31 := by kernel_rfl

theorem oracle0 : OracleOk Try.prog (trueO []) := fun _ _ h => by cases h
theorem drawnD (D : List Deferred) : ∀ ev, FSound Try.prog ev.f → DS D Try.prog ev := fun ev hF => drawn_sound deep follows hF
theorem parse31 : FS1 Try.prog 31 (dfRun 58 D31 ER) := by
  have hs := evN_sound (P := Try.prog) deep tableFA oracle0 (drawnD [])
  refine df_sound deep (hs 2000).1 (hs 2000).2.1 (fun d => ?_) idle58 df31
  exact (evN_CS (D := [d]) deep (fun n => (hs n).1) (drawnD [d]) 2000).1
theorem oracleA : OracleOk Try.prog OA := by
  intro f s h
  unfold OA at h
  cases hb : Nat.beq f 31 with
  | true =>
    rw [hb] at h
    cases h
    have := Nat.eq_of_beq_eq_true hb
    subst this
    exact parse31
  | false =>
    rw [hb] at h
    cases h
theorem alive23 : OracleOk Try.prog (trueO [23]) := by
  refine trueO_ok fun p hp => ?_
  obtain rfl : p = 23 := by simpa using hp
  exact FS1.closed (machine_sound deep follows tableFA oracleA 2000) run23
end Go.Proofs.Ytabhplelhjcdiaa.Regs

namespace Go.Proofs.Ytabhplelhjcdiaa.Regs
open Go.Rx Go.ChangeShapes Go.WideShapes Go.ChangeAt Go.RowKit Go.WideElems
set_option linter.unusedVariables false
set_option linter.unusedSimpArgs false

def regRep : Rx.Repr RegD := fun H cs r => RegC H r cs
theorem regRep_mono : RMono regRep := fun H H' cs x g h => RegC.gp g.p x h
theorem sizeR_sum : ∀ ps : List RegD, sizeR ps = (ps.map RegD.size).sum
  | [] => rfl
  | p :: ps => by rw [sizeR, sizeR_sum ps]; rfl
theorem RL_int {H : Heap} {k : IntKind} : ∀ {css : List (List Value)} {l : List Int}, RL (intR k) H css l → css.flatten = l.map (.int k) ∧ ∀ x ∈ l, k.min ≤ x ∧ x ≤ k.max
  | [], [], _ => ⟨rfl, fun x h => by simp at h⟩
  | c :: css, x :: xs, h => by
    obtain ⟨e1, e2⟩ := RL_int h.2
    obtain ⟨h1, h2⟩ := h.1
    refine ⟨by rw [List.flatten_cons, e1, h1]; rfl, fun y hy => ?_⟩
    rcases List.mem_cons.1 hy with rfl | hy
    · exact h2
    · exact e2 y hy
  | [], _ :: _, h => h.elim
  | _ :: _, [], h => h.elim
theorem RL_reg {H : Heap} : ∀ {css : List (List Value)} {l : List RegD}, RL regRep H css l → RegL H l css
  | [], [], _ => rfl
  | c :: css, x :: xs, h => ⟨c, css, rfl, h.1, RL_reg h.2⟩
  | [], _ :: _, h => h.elim
  | _ :: _, [], h => h.elim

abbrev rawR : Rx.Repr (Int × List Int × List RegD × Unit) := pairR 1 (intR .i64) (pairR (4 * 1) (arrR (intR .u64) 4) (pairR 1 (slRB 48 regRep) nilR))
theorem raw_reg {H : Heap} {cs : List Value} {x : Int × List Int × List RegD × Unit} (h1 : 1 ≤ H.next) (h : rawR H cs x) : RegC H (.mk x.1 x.2.1 x.2.2.1) cs := by
  obtain ⟨k, s, ps, u⟩ := x
  obtain ⟨c0, r0, rfl, ⟨rfl, hk⟩, c1, r1, rfl, h2, c2, r2, rfl, ⟨h3, h4⟩, rfl⟩ := h
  simp only at h2 h3 h4 hk ⊢
  obtain ⟨ass, rfl, ha, hl⟩ := h2
  obtain ⟨e1, e2⟩ := RL_int ha
  match s, hl, e1, e2 with
  | [s0, s1, s2, s3], _, e1, e2 =>
    have m1 : IntKind.u64.min = 0 := by decide
    have m2 : IntKind.u64.max = 18446744073709551615 := by decide
    have m3 : IntKind.i64.min = -9223372036854775808 := by decide
    have m4 : IntKind.i64.max = 9223372036854775807 := by decide
    have hs : ∀ x ∈ [s0, s1, s2, s3], 0 ≤ x ∧ x < 18446744073709551616 := fun x hx => by
      have := e2 x hx
      rw [m1, m2] at this
      omega
    rw [m3, m4] at hk
    rw [RegC]
    rcases h3 with ⟨rfl, rfl⟩ | ⟨b, cap, css, rfl, g1, g2, g3, g4, g5⟩
    · exact ⟨s0, s1, s2, s3, .slice none 0 0, [], by rw [e1]; rfl, rfl, hk, hs, ⟨by show 0 < _; omega, by simp, .inl ⟨rfl, rfl⟩⟩, rfl, by simp⟩
    · have hrl := RL_reg g5
      have hlen := RL_length g5
      refine ⟨s0, s1, s2, s3, _, css, by rw [e1]; rfl, rfl, hk, hs, ⟨(show bno (.slice (some ⟨b, 0, some 0⟩) _ cap) < _ from g3), fun c hc => (hrl.ones c hc).1, .inr ⟨b, 0, some 0, cap, css.flatten, 48, false, by rw [hlen], g2, g4, (fun h => by cases h), by omega, ?_⟩⟩, hrl, h4⟩
      exact cut_all (flatN fun c hc => (hrl.ones c hc).1)

theorem regE : ∀ f, ReadsE Try.prog f 48 (1 + 4 * 1 + 1) regRep RegD.size := by
  intro f
  induction f using Nat.strongRecOn with
  | _ f ih =>
    cases f with
    | zero =>
      intro Hd enc W cs d ps h
      obtain ⟨xs, n, hn, _⟩ := DataW.trod_struct Try.underlying48 h
      cases hn
    | succ f =>
      have hsl : ReadsE Try.prog f 46 1 (slRB 48 regRep) (fun l => (l.map RegD.size).sum + 1) := by
        cases f with
        | zero =>
          intro Hd enc W cs d ps h
          rcases DataW.trod_slice Try.underlying46 h with ⟨rfl, hx⟩ | ⟨a, len, cap, elems, rest, m, hfm, _⟩
          · cases hx
            exact ⟨rfl, [], Nat.le_refl _, fun ρ H hs ho h1n => ⟨_, ρ, H, hs, ho, ρ.le_refl, .refl _, .cons _ _ _ _ .slNil .nil, .inl ⟨rfl, rfl⟩, by simp⟩⟩
          · cases hfm
        | succ f => exact reads_sliceE (n := 1 + 4 * 1 + 1) Try.underlying46 (by kernel_rfl) (by decide) (ih f (by omega)) regRep_mono
      have hst : ReadsE Try.prog (f + 1) 48 (1 + 4 * 1 + 1) rawR (fun x => 1 + ((x.2.1.map fun _ => 1).sum + 1) + ((x.2.2.1.map RegD.size).sum + 1) + 1) := reads_struct3E (P := Try.prog) (n0 := 1) (n1 := 4 * 1) (n2 := 1) Try.underlying48 rfl rfl rfl (by kernel_rfl) (by kernel_rfl) (by kernel_rfl) (Reads.e (reads_int Try.underlying3) f)
        (Reads.e (reads_array Try.underlying45 (by kernel_rfl) (by kernel_rfl) (reads_int Try.underlying43) (intR_mono _)) f) hsl (by kernel_rfl) (intR_mono _) (arrR_mono (intR_mono _)) (slRB_mono regRep_mono)
      intro Hd enc W cs d ps h
      obtain ⟨h1, x, h2, h3⟩ := hst enc W cs d ps h
      refine ⟨h1, .mk x.1 x.2.1 x.2.2.1, ?_, ?_⟩
      · rw [RegD.size, sizeR_sum]
        simp only at h2
        omega
      · intro ρ H hs ho h1n
        obtain ⟨cs', ρ', H', a1, a2, a3, a4, a5, a6⟩ := h3 ρ H hs ho h1n
        exact ⟨cs', ρ', H', a1, a2, a3, a4, a5, raw_reg (Nat.le_trans h1n a4.1) a6⟩
theorem readsReg : Reads Try.prog 48 (1 + 4 * 1 + 1) regRep RegD.size := fun enc W fuel cs d ps h => regE fuel enc W cs d ps h

noncomputable def F : Nat → Option AF := tabF [(6, A6), (8, A8), (9, A9), (22, A22), (24, A24), (25, A25), (51, A51), (52, A52), (55, A55), (60, A60), (74, A74), (75, A75), (76, A76), (77, A77), (91, A91), (92, A92), (102, A102), (113, A113), (118, A118), (128, A128)]
noncomputable def M : Mach := ⟨F, trueO [23]⟩
theorem tableOk : TableOk Try.prog F := by
  refine tabF_ok fun p hp => ?_
  simp only [List.mem_cons, List.not_mem_nil, or_false] at hp
  rcases hp with rfl | rfl | rfl | rfl | rfl | rfl | rfl | rfl | rfl | rfl | rfl | rfl | rfl | rfl | rfl | rfl | rfl | rfl | rfl | rfl
  all_goals kernel_rfl
theorem lawF : LawF M where
  mono := mono_true
  bs := ⟨rfl, rfl, rfl, rfl, rfl, rfl, rfl, rfl⟩
  o52 := rfl
  f52 := rfl
  o75 := rfl
  f75 := rfl
  o76 := rfl
  f76 := rfl
  o77 := rfl
  f77 := rfl
  o91 := rfl
  f91 := rfl
  o92 := rfl
  f92 := rfl
  o22 := rfl
  f22 := rfl
  o51 := rfl
  f51 := rfl
  o55 := rfl
  f55 := rfl
  o60 := rfl
  f60 := rfl
  o74 := rfl
  f74 := rfl
  o23 := rfl
  o24 := rfl
  f24 := rfl
  o25 := rfl
  f25 := rfl
end Go.Proofs.Ytabhplelhjcdiaa.Regs
