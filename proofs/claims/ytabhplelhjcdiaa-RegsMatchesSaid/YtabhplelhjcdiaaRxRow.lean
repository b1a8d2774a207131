/- Out of a law's calls: its row's 'post'. -/
import Derived.Test.YtabhplelhjcdiaaRxRow0
import Derived.Carry
import Derived.ChangeSame
import Derived.RowKit
import Derived.ChangeMaps5
/- Out of a law's calls: its row's 'post'. -/
set_option linter.unusedVariables false
set_option linter.unusedSimpArgs false
namespace Go.Rx
open Go.ChangeShapes Go.WideShapes Go.RowKit

variable {P : Program} {H : Type} {enc : TypeId × Value → H}

theorem trodAll_stays (hl : laidOutB P = true) {W W' : World} {sp : Nat → Bool} : ∀ {ts : List TypeId} {vs : List Value} {ds : List (DataW H)} {ps : List MemPlace},
    (∀ t ∈ ts, P.readableRec t = true ∧ t < P.types.size) → DataW.TrodAll enc P W 0 (fun _ => true) true ts vs ds ps → (∀ p ∈ ps, W.sameAt W' p) → (∀ p ∈ ps, sp p.block = true) → DataW.TrodAll enc P W' 0 sp true ts vs ds ps
  | [], vs, ds, ps, _, h, _, _ => by
    obtain ⟨rfl, rfl, rfl⟩ := trodAll_nil h
    exact rfl
  | t :: ts, vs, ds, ps, ht, h, hs, hp => by
    obtain ⟨v, vs1, d, ds1, a, b, rfl, rfl, rfl, h1, h2⟩ := trodAll_cons h
    exact ⟨a, b, WideElems.Trod_stays hl (ht t (by simp)).1 (ht t (by simp)).2 h1 (fun p hp' => hs p (by simp [hp'])) (fun p hp' => hp p (by simp [hp'])),
      trodAll_stays hl (fun u hu => ht u (by simp [hu])) h2 (fun p hp' => hs p (by simp [hp'])) (fun p hp' => hp p (by simp [hp'])), rfl⟩

theorem law_post {f : Func} {s : ChangeSpec} (hl : laidOutB P = true) (hr : f.params.toList.all (fun t => P.readableRec t && decide (t < P.types.size)) = true) (hv : s.vars = []) {tb : TypeId} (hres : f.resultTypes = #[tb]) (htb : P.underlying tb = some .bool)
    {W : World} {args : Array Value} {ds gs : List (DataW H)} {before : List MemPlace} (hW : DataW.Whole enc P f.params.toList s.vars false W args.toList ds gs before)
    (hfn : (s.fn H (ds ++ gs)).results = [.lit (.bool true)] ∧ (s.fn H (ds ++ gs)).args = ds ∧ (s.fn H (ds ++ gs)).vars = []) {e : Ending} {W' : World} (he : LawEnd W e W') :
    ∃ v, e = .returned v ∧ s.post enc P f false true false false W args v W' := by
  obtain ⟨rfl, hos, hout, hsz, hblk⟩ := he
  obtain ⟨hf1, hf2, hf3⟩ := hfn
  have hlt := hW.lt
  have hb : Below W.heap.size W { W' with tape := W.tape } := ⟨hos, rfl, hout, hsz, hblk⟩
  have hfr := hb.frame (fun p => p ∈ before ∧ (p ∈ [] ∨ p ∈ before ∨ p ∈ []))
  have hW' := hW
  obtain ⟨p, q, hA, hV, rfl, hfz, hnd⟩ := hW
  rw [hv] at hV
  obtain ⟨rfl, rfl⟩ := trodVars_none hV
  simp only [List.append_nil] at hlt hfr hW' hf1 hf2 hf3 hfz
  have hsame : ∀ x ∈ p, W.sameAt W' x := fun x hx => hb.same (hlt x hx)
  refine ⟨_, rfl, ds, [], p, [], p, [], hW', ?_, ?_, ?_, ?_, fun h => by cases h⟩
  · rw [List.append_nil, hf1, hres]
    exact trodAll_mk1 (shut_bool htb true)
  · rw [List.append_nil, hf2]
    refine trodAll_stays hl (fun t ht => ?_) hA hsame (fun x hx => by simpa using hlt x hx)
    have := List.all_eq_true.1 hr t ht
    simpa using this
  · rw [List.append_nil, hf3, hv]
    exact rfl
  · exact hfr

end Go.Rx
