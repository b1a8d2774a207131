/- Each operation of the abstract machine is the real one's: copy, maps. -/
import Derived.Test.YtabhplelhjcdiaaRxOps9
/- Each operation of the abstract machine is the real one's: copy, maps. -/
set_option linter.unusedVariables false
set_option linter.unusedSimpArgs false
namespace Go.Rx

variable {D : List Deferred}
variable {P : Program} {ρ : Ren} {H H' : Heap} {w : World} {e : Env} {a : Act} {nt : Nat} {v : Value}

/-- What is copied. -/
theorem cpy_rel (hs : Sim P ρ H w) {sz n m : Nat} {y y' : Value} {new : List Value} (h : cpyNew H sz n y = some (new, m)) (hy : VR ρ y y') :
    ∃ k new', (Builtin.lenOf y').run P w = .ok k w ∧ Nat.min k n = m ∧ (Builtin.firstCells sz m y').run P w = .ok (⟨new'⟩ : Array Value) w ∧ VRL ρ new new' := by
  unfold cpyNew at h
  split at h
  · cases h
    cases hy with
    | slNil => exact ⟨0, [], rfl, Nat.zero_min _, run_firstCells_none w sz 0 0 0, .nil⟩
  · rename_i ad m' c
    split at h
    · rename_i l hrd
      cases h
      cases hy with
      | sl _ _ _ c' lc hl hn hc hx fit =>
        obtain ⟨vs', hlen, hvr, hcell⟩ := hs.rd hl hrd
        exact ⟨m', vs', rfl, rfl, run_firstCells_some w sz _ _ m' c' vs' hlen hcell, hvr⟩
      | sl0 _ b =>
        obtain ⟨cs, ce, rw', hbk, hcut⟩ := rdB_some hrd
        obtain ⟨_, _, hlen, _⟩ := cut_some hcut
        have h0 : new = [] := List.length_eq_zero_iff.1 (by simpa using hlen)
        subst h0
        exact ⟨0, [], rfl, rfl, run_firstCells_some w sz _ b 0 0 [] (by simp) (by simp), .nil⟩
    · cases h
  · rename_i s
    cases h
    cases hy
    have hlen : s.data.toList.length = s.size := by rw [Array.length_toList]; rfl
    rw [hlen]
    refine ⟨s.size, _, rfl, rfl, ?_, VRL.ground (l := (bytesOf s).take (min s.size n)) ?_⟩
    · simp only [Builtin.firstCells, bytesOf]
      have : (s.extract 0 (min s.size n)).data.map (fun b => Value.int .u8 b.toNat) = ⟨List.take (min s.size n) (s.data.toList.map fun b => Value.int .u8 b.toNat)⟩ := by
        apply Array.ext'
        rw [Array.toList_map, ByteArray.data_extract, Array.toList_extract]
        simp [List.extract, List.map_take]
      rw [← this]
      simp
    · rw [List.all_eq_true]
      intro x hx
      exact List.all_eq_true.1 (bytes_ground s) x (List.mem_of_mem_take hx)
  · cases h

theorem s_cpy (o : Oper) (ha : AR D ρ nt e a) (hs : Sim P ρ H w) {t u el : TypeId} {sz : Nat} {c : Call} {x y : Operand} {x' y' : Opd} (ho : o.op = .call c) (hcl : c.callee = .builtin .copy) (hargs : c.args.toList = [x, y]) (hats : c.argTypes.toList = [t, u])
    (hx : Opd.of x = some x') (hy : Opd.of y = some y') (ht : P.underlying t = some (.slice el)) (hsz : sizeO P el = some sz)
    (hr : copyV H sz (x'.v e) (y'.v e) = some (v, H')) : Good P ρ H w H' v ((execOp a.eval o).run P w) := by
  have h1 := opd hx ha
  have h2 := opd hy ha
  generalize hxv : a.eval x = xv at h1
  generalize hyv : a.eval y = yv at h2
  generalize x'.v e = xa at hr h1
  generalize y'.v e = ya at hr h2
  have hargs' : c.args = #[x, y] := Array.ext' hargs
  have hats' : c.argTypes = #[t, u] := Array.ext' hats
  have hexec : execOp a.eval o = (do pure (Next.value (← Builtin.copy_ #[t, u] o.type #[xv, yv])) : Sem Next) := by
    simp [execOp, ho, resolve, hcl, invoke, builtin, hargs', hats', hxv, hyv]
  rw [hexec]
  have hss := run_sizeOf hsz w
  unfold copyV at hr
  split at hr
  · cases h1 with
    | slNil =>
      have key : ∀ k, (Builtin.lenOf yv).run P w = .ok k w → (Builtin.firstCells sz 0 yv).run P w = .ok #[] w → (Builtin.copy_ #[t, u] o.type #[.slice none 0 0, yv]).run P w = .ok (.int .i64 0) w := by
        intro k hk hf
        simp [Builtin.copy_, run_underlying ht, hk, hss, hf, goInt]
      split at hr
      · cases hr
        cases h2 with
        | slNil => exact .still hs (run_val (key 0 rfl (run_firstCells_none w sz 0 0 0))) (.int _ _)
        | sl ad n c c' lc hl hn hc hx fit => exact .still hs (run_val (key _ rfl (run_firstCells_some w sz 0 _ _ c' [] (by simp) (by simp)))) (.int _ _)
        | sl0 ad b => exact .still hs (run_val (key 0 rfl (run_firstCells_some w sz 0 _ 0 0 [] (by simp) (by simp)))) (.int _ _)
      · rename_i s
        cases hr
        cases h2
        refine .still hs (run_val (key s.size rfl ?_)) (.int _ _)
        simp only [Builtin.firstCells]
        have : (s.extract 0 0).data.map (fun b => Value.int .u8 b.toNat) = #[] := by
          apply Array.ext'
          rw [Array.toList_map, ByteArray.data_extract, Array.toList_extract]
          simp [List.extract]
        rw [this]
        simp
      · cases hr
  · rename_i ad n cp
    split at hr
    · cases hr
    · rename_i new m hnew
      obtain ⟨k, new', hk, hkm, hf, hrel⟩ := cpy_rel hs hnew h2
      have key : ∀ (b : Addr) (c' : Nat) (w' : World), (storeCells b new').run P w = .ok () w' → (Builtin.copy_ #[t, u] o.type #[.slice (some b) n c', yv]).run P w = .ok (.int .i64 m) w' := by
        intro b c' w' hst
        have hkm' : Nat.min k n = m := hkm
        have hkm2 : min k n = m := hkm
        simp [Builtin.copy_, run_underlying ht, hk, hss, hkm', hkm2, hf, goInt, hst]
      cases hm : Nat.beq m 0 with
      | true =>
        have hm0 := Nat.eq_of_beq_eq_true hm
        rw [hm] at hr
        cases hr
        have hn0 : new' = [] := by
          unfold cpyNew at hnew
          split at hnew
          · cases hnew; cases hrel; rfl
          · split at hnew
            · rename_i l hrd
              cases hnew
              obtain ⟨cs, ce, rw', hbk, hcut⟩ := rdB_some hrd
              obtain ⟨_, _, hlen, _⟩ := cut_some hcut
              rw [hm0, Nat.zero_mul] at hlen
              have := List.length_eq_zero_iff.1 hlen
              subst this
              cases hrel; rfl
            · cases hnew
          · cases hnew
            rw [hm0] at hrel
            cases hrel; rfl
          · cases hnew
        subst hn0
        subst hm0
        cases h1 with
        | sl _ _ _ c' lc hl hn hc hx fit => exact .still hs (run_val (key _ c' w rfl)) (.int _ _)
        | sl0 _ b => exact .still hs (run_val (key b 0 w rfl)) (.int _ _)
      | false =>
        rw [hm] at hr
        simp only [cond_false] at hr
        split at hr
        · rename_i h' hw
          cases hr
          cases h1 with
          | sl _ _ _ c' lc hl hn hc hx fit =>
            obtain ⟨w', hst, hsim, hstp⟩ := hs.wr hl hw hrel
            exact ⟨ρ, _, w', .inl (run_val (key _ c' w' hst)), .int _ _, hsim, hstp⟩
          | sl0 _ b =>
            have : m = 0 := by rw [← hkm]; exact Nat.min_zero _
            subst this
            cases hm
        · cases hr
  · cases hr

end Go.Rx
