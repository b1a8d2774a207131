/- THE MACHINE IS SOUND. -/
import Derived.Test.YtabhplelhjcdiaaRxDraw5
/- THE MACHINE IS SOUND. -/
set_option linter.unusedVariables false
set_option linter.unusedSimpArgs false
namespace Go.Rx

variable {D : List Deferred}
variable {P : Program}

theorem staysAll_mem {ev : Ev} {l : List GI} {e : Env} {hs : List Heap} : ∀ {ps : List (Nat × Nat)}, staysAll ev l e hs ps = true → ∀ p q, (p, q) ∈ ps → stays ev l e p hs[q]? = true ∧ stays ev l e p hs[q + 1]? = true
  | [], _, p, q, h => by cases h
  | (p', q') :: r, h, p, q, hm => by
    simp only [staysAll, Bool.and_eq_true] at h
    rcases List.mem_cons.1 hm with h1 | h1
    · cases h1; exact ⟨h.1.1, h.1.2⟩
    · exact staysAll_mem h.2 p q h1

theorem drawn_sound (hdep : 50 ≤ P.depth) (hm : P.follows .mixedOrders = true) {ev : Ev} (hF : FSound P ev.f) : DS D P ev := by
  intro nt id ops gs ps e H e' H' hgs hdr hr ρ0 a w0 Q har hsim hq
  obtain ⟨hlen, hcomp⟩ := gisOf_get hgs
  -- the checks
  unfold drawn at hdr
  split at hdr
  · rename_i hB
    cases hdr
    have chk := drawnB_checks hB
    -- the run
    unfold runD at hr
    split at hr
    · rename_i e1 h1 hs hrt
      obtain ⟨hck, hr⟩ := bifS hr
      cases hr
      simp only [Bool.and_eq_true] at hck
      obtain ⟨Es, Hs, vs, a1, a2, a3, a4, a5, a6⟩ := runT_run gs e H [H] e' H' hs hrt
      rw [chk.len] at a3 a4 a5
      subst a1; subst a2; subst a3; subst a4
      have hs' : hs = [Hs 0] ++ (List.range ops.size).map (fun i => Hs (i + 1)) := a5
      rw [hs'] at hck
      have c : Ctx P nt ops gs (waitsOf ops.toList) (pairsOf gs (waitsOf ops.toList) (pairs ops.toList.length)) ev Es Hs vs := by
        refine ⟨hdep, hF, fun j o ho => hcomp j o (by simpa using ho), chk, ?_, a6, mono_of hck.1, ?_⟩
        · intro i j hi hj hw
          exact pairsOf_mem (mem_pairs hi (by simpa using hj)) hw
        · intro p q hp hq
          obtain ⟨b1, b2⟩ := staysAll_mem hck.2 p q hp
          rw [hs_get (by omega)] at b1
          rw [hs_get (by omega)] at b2
          exact ⟨b1, b2⟩
      refine wp_region_any hm ?_
      have hsim' := hsim.drawn (w0.drawn + 1)
      have hstp' := Stp.drawn ρ0 (Hs 0) w0 (w0.drawn + 1)
      refine wpAny_inv (Nxt D P nt ops gs (waitsOf ops.toList) Es Hs vs ρ0 { w0 with drawn := w0.drawn + 1 }) ?_ ?_ ?_ ops.size _ a _ ?_ ?_
      · rintro listed a1 w1 i ⟨ρ, E, m0, hst⟩ hi
        exact hst.step c (c.turn hst.size hst.closed hi) Q
      · rintro listed a1 w1 ⟨ρ, E, m0, hst⟩ hnil
        -- all have been carried out
        have hall : ∀ i, i < ops.size → Ld listed i := by
          intro i
          induction i using Nat.strongRecOn with
          | _ i ih =>
            intro hi
            cases hL : listed.getD i false with
            | true => exact hL
            | false =>
              exfalso
              have hlt : i < listed.size := by rw [hst.size]; exact hi
              have hmem : i ∈ Region.ready .any ops listed := by
                refine List.mem_filter.2 ⟨by simpa using hi, ?_⟩
                have ho : ops[i]? = some ops[i] := by simp [hi]
                rw [Array.getD_eq_getD_getElem?, Array.getElem?_eq_getElem hlt] at hL ⊢
                simp only [Option.getD_some] at hL ⊢
                rw [hL, ho]
                simp only [Bool.not_false, Bool.true_and, Option.map_some, Option.getD_some]
                rw [Array.all_eq_true_iff_forall_mem]
                intro ed hed
                have hok := chk.one i hi
                unfold opOk at hok
                have hi' : i < gs.length := by rw [chk.len]; exact hi
                simp only [Array.getElem?_toList, ho, List.getElem?_eq_getElem hi', Bool.and_eq_true, beq_iff_eq] at hok
                have hb := List.all_eq_true.1 hok.1.2 ed (Array.mem_toList_iff.2 hed)
                cases hbi : Region.binds .any ed with
                | false => rfl
                | true =>
                  simp only [hbi, Bool.not_true, Bool.false_or, decide_eq_true_eq] at hb ⊢
                  exact ih ed.on hb (by omega)
              rw [hnil] at hmem
              cases hmem
        have hno : ∀ q, m0 ≤ q → q < ops.size → sortAt gs q ≠ 3 := by
          intro q h1 h2 h3
          have := (hst.wr q h2 h3).1 (hall q h2)
          omega
        have hw := hst.reach c hst.wst.le (Nat.le_refl _) hno
        refine hq _ a1 w1 ⟨hst.asz, hst.adef, fun t => ?_⟩ hw.j1 (hstp'.trans hw.stp)
        have hEt : E.g t = (Es ops.size).g t := by
          by_cases hex : ∃ i, i < ops.size ∧ dstAt ops.toList i = some t
          · obtain ⟨i, hi, hd⟩ := hex
            rw [hst.eset i t hi (hall i hi) hd]
            exact (c.run.own c.ddist (by rw [c.dst hi]; exact hd) hi (by rw [chk.len]; exact Nat.le_refl _)).symm
          · rw [hst.eold t fun i hi _ hd => hex ⟨i, hi, hd⟩]
            refine (c.run.other (by rw [chk.len]; exact Nat.le_refl _) fun i hi => ?_).symm
            rw [c.dst hi]
            exact fun hd => hex ⟨i, hi, hd⟩
        rw [← hEt]
        have hm0 := hst.wst.le
        rcases hst.slot t with ⟨i, hi, hL, hd, hv⟩ | ⟨_, hv⟩
        · exact hv.mono (cutR_le ρ (c.mono _ _ (by omega) (Nat.le_refl _)))
        · exact hv.mono (cutR_le ρ (c.mono _ _ (by omega) (Nat.le_refl _)))
      · rintro listed a1 w1 ⟨ρ, E, m0, hst⟩
        exact hst.size
      · -- to begin with
        have hnone : ∀ i, ¬ Ld (Array.replicate ops.size false) i := by
          intro i h
          unfold Ld at h
          rw [Array.getD_eq_getD_getElem?, Array.getElem?_replicate] at h
          split at h <;> simp at h
        have hcut : cutR ρ0 (Hs 0).next = ρ0 := by
          funext x
          rcases Nat.lt_or_ge x (Hs 0).next with h1 | h1
          · exact cutR_lt h1
          · rw [cutR_ge h1, hsim.fresh x h1]
        refine ⟨ρ0, Es 0, 0, by simp, fun i j _ _ _ h => absurd h (hnone j), ?_, ?_, ⟨Nat.zero_le _, by rw [hcut]; exact hsim', ?_, ?_, ?_, by rw [hcut]; exact Stp.refl _ _ _⟩, fun i d _ h => absurd h (hnone i), fun t _ => rfl, ?_, har.size, har.defers, .inl rfl⟩
        · intro q _ _
          exact ⟨fun h => absurd h (hnone q), fun h => by omega⟩
        · intro i _ _ h; omega
        · intro x l hx
          left
          rcases Nat.lt_or_ge x (Hs 0).next with h1 | h1
          · exact h1
          · rw [hsim.fresh x h1] at hx; cases hx
        · intro i x l h; exact absurd h (hnone i)
        · intro i i' x x' l l' h; exact absurd h (hnone i)
        · intro t
          right
          refine ⟨fun i _ h => absurd h (hnone i), ?_⟩
          rw [hcut]
          exact har.slot t
      · refine Nat.le_trans List.countP_le_length ?_
        simp
    · cases hr
  · cases hdr

/-- Whatever the abstract machine answers, every real run answers. -/
theorem machine_sound (hdep : 50 ≤ P.depth) (hm : P.follows .mixedOrders = true) {F : Nat → Option AF} {O : Nat → Option (List Value → Heap → R)} (hT : TableOk P F) (hO : OracleOk P O) (n : Nat) : FSound P (evN F O n).f :=
  (evN_sound hdep hT hO (fun ev hF => drawn_sound hdep hm hF) n).1

end Go.Rx
