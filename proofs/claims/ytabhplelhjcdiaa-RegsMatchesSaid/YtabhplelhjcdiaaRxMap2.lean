/- Each operation of the abstract machine is the real one's: maps, the operations. -/
import Derived.Test.YtabhplelhjcdiaaRxMap
/- Each operation of the abstract machine is the real one's: maps, the operations. -/
set_option linter.unusedVariables false
set_option linter.unusedSimpArgs false
namespace Go.Rx

variable {D : List Deferred}
variable {P : Program} {ρ : Ren} {H H' : Heap} {w : World} {e : Env} {a : Act} {nt : Nat} {v : Value}

theorem VR.zero {t : TypeId} {z : Value} (hz : zero1 P t = some z) : VR ρ z z := by
  obtain ⟨_, _, _, hg⟩ := zero1_info hz
  cases z with
  | agg cs => exact .agg _ _ (VRL.ground hg)
  | _ => exact .ground (by simpa [Value.cells] using hg)

theorem s_look (o : Oper) (ha : AR D ρ nt e a) (hs : Sim P ρ H w) {t kt et : TypeId} {ag : Bool} {ks : List Nat} {z : Value} {ok : Bool} {m k : Operand} {m' k' : Opd} (ho : o.op = .lookup t m k ok) (hm : Opd.of m = some m') (hk : Opd.of k = some k')
    (ht : P.underlying t = some (.map kt et)) (hko : keyO P kt = some (ag, ks)) (hz : zero1 P et = some z)
    (hr : iLook ag ks z ok (m'.v e) (k'.v e) H = some (v, H')) : Still P ρ H w H' v ((execOp a.eval o).run P w) := by
  have h1 := opd hm ha
  have h2 := opd hk ha
  generalize hmv : a.eval m = mv at h1
  generalize hkv : a.eval k = kv at h2
  generalize m'.v e = ma at hr h1
  generalize k'.v e = ka at hr h2
  unfold iLook at hr
  split at hr
  · cases hr
  · rename_i es hes
    have hzv := run_zeroValue hz w
    obtain ⟨_, _, _, hzg⟩ := zero1_info hz
    -- the entries, in the real world
    have hE : ∃ es' : Array MapEntry, VRE ρ 0 es es'.toList ∧ ((mv = .map none ∧ es' = #[]) ∨ (∃ r c, mv = .map (some r) ∧ w.heap[r]? = some (.map es' c))) := by
      unfold mapE at hes
      split at hes
      · cases hes; cases h1; exact ⟨#[], .nil 0, .inl ⟨rfl, rfl⟩⟩
      · split at hes
        · rename_i r _ es0 hb
          cases hes
          cases h1 with
          | map _ l hl =>
            obtain ⟨ces, c1, c2⟩ := hs.blks _ _ _ hl hb
            exact ⟨ces, c2, .inr ⟨_, _, rfl, c1⟩⟩
        · cases hes
      · cases hes
    obtain ⟨es', hE1, hE2⟩ := hE
    have fin : ∀ r, findK ag ks ka es 0 = some r → ∃ r', FR ρ r r' ∧ (Instr.lookup t mv kv ok).run P w = .ok (match r' with
        | some (_, u) => if ok then .tuple #[u, .bool true] else u
        | none => if ok then .tuple #[z, .bool false] else z) w := by
      intro r hf
      obtain ⟨r', hr1, hr2⟩ := findKey_rel hko h2 w hE1 hf
      have hck := keyOk_run (P := P) hko (findK_ok hf) h2 es'.isEmpty w
      refine ⟨r', hr2, ?_⟩
      rcases hE2 with ⟨rfl, rfl⟩ | ⟨r, c, rfl, hb⟩
      · cases hr2 <;> cases ok <;> simp_all [Instr.lookup, run_underlying ht]
      · have hgo := MapKept.run_getObj_map (P := P) hb
        cases hr2 <;> cases ok <;> simp_all [Instr.lookup, run_underlying ht]
    have hzr : VR ρ z z := VR.zero hz
    split at hr
    · rename_i i u hf
      cases hr
      obtain ⟨r', hr2, hrun⟩ := fin _ hf
      cases hr2 with
      | some _ _ u' hu =>
        refine .still hs (v' := if ok then .tuple #[u', .bool true] else u') ?_ ?_
        · simp only [execOp, ho, hmv, hkv]
          exact run_val hrun
        · cases ok
          · exact hu
          · exact .tuple _ _ (.cons _ _ _ _ hu (.cons _ _ _ _ (.bool _) .nil))
    · rename_i hf
      cases hr
      obtain ⟨r', hr2, hrun⟩ := fin _ hf
      cases hr2
      refine .still hs (v' := if ok then .tuple #[z, .bool false] else z) ?_ ?_
      · simp only [execOp, ho, hmv, hkv]
        exact run_val hrun
      · cases ok
        · exact hzr
        · exact .tuple _ _ (.cons _ _ _ _ hzr (.cons _ _ _ _ (.bool _) .nil))
    · cases hr

/-- A map is turned. -/
theorem map_turn (hs : Sim P ρ H w) {r : Nat} {l : Loc} {es es1 : List (Value × Value)} {ces : Array MapEntry} {n : Nat} (hl : ρ r = some l) (hb : H.at r = some (.map es)) (hw : w.heap[l.blk]? = some (.map ces n)) (ces1 : Array MapEntry) (hE : VRE ρ 0 es1 ces1.toList) :
    (setObj l.blk (.map ces1 es1.length)).run P w = .ok () { w with heap := w.heap.setIfInBounds l.blk (.map ces1 es1.length) } ∧
    Sim P ρ (H.set r (some (.map es1))) { w with heap := w.heap.setIfInBounds l.blk (.map ces1 es1.length) } ∧ Stp ρ H w ρ (H.set r (some (.map es1))) { w with heap := w.heap.setIfInBounds l.blk (.map ces1 es1.length) } := by
  have hlt := (Array.getElem?_eq_some_iff.1 hw).1
  refine ⟨MapKept.run_setObj_map _ hw, ?_⟩
  refine hs.turn r l (.map es) (.map es1) _ hl hb rfl rfl rfl rfl (by simp) (fun c hc => ?_) ⟨ces1, ?_, hE⟩
  · show (w.heap.setIfInBounds l.blk _)[c]? = _
    rw [Array.getElem?_setIfInBounds, if_neg (Ne.symm hc)]
  · show (w.heap.setIfInBounds l.blk _)[l.blk]? = _
    rw [Array.getElem?_setIfInBounds, if_pos rfl, if_pos hlt]

theorem setK_length : ∀ (es : List (Value × Value)) (i : Nat) (v : Value), (setK es i v).length = es.length
  | [], _, _ => rfl
  | (_, _) :: _, 0, _ => rfl
  | _ :: r, i + 1, v => by simp [setK, setK_length r i v]

theorem modify_key {ces : List MapEntry} {i : Nat} {k u : Value} {b : Nat} (h : ces[i]? = some ⟨k, u, b⟩) (f : MapEntry → MapEntry) : (ces.modify i fun e => f { e with key := k }) = ces.modify i f := by
  apply List.ext_getElem?
  intro j
  rw [List.getElem?_modify, List.getElem?_modify]
  by_cases hj : i = j
  · subst hj; rw [h]; simp
  · simp [hj]

theorem s_mset (o : Oper) (ha : AR D ρ nt e a) (hs : Sim P ρ H w) {t kt et : TypeId} {ag : Bool} {ks : List Nat} {m k x : Operand} {m' k' x' : Opd} (ho : o.op = .mapUpdate t m k x) (hm : Opd.of m = some m') (hk : Opd.of k = some k') (hx : Opd.of x = some x')
    (ht : P.underlying t = some (.map kt et)) (hko : keyO P kt = some (ag, ks))
    (hr : iMset ag ks (m'.v e) (k'.v e) (x'.v e) H = some (v, H')) : Good P ρ H w H' v ((execOp a.eval o).run P w) := by
  have h1 := opd hm ha
  have h2 := opd hk ha
  have h3 := opd hx ha
  generalize hmv : a.eval m = mv at h1
  generalize hkv : a.eval k = kv at h2
  generalize hxv : a.eval x = xv at h3
  generalize m'.v e = ma at hr h1
  generalize k'.v e = ka at hr h2
  generalize x'.v e = xa at hr h3
  unfold iMset at hr
  split at hr
  · rename_i r
    split at hr
    · rename_i es hb
      cases h1 with
      | map _ l hl =>
        obtain ⟨ces, hw, hE⟩ := hs.blks _ _ _ hl hb
        have hgo := MapKept.run_getObj_map (P := P) hw
        have fin : ∀ q, findK ag ks ka es 0 = some q → ∃ q', FR ρ q q' ∧ (Instr.findKey kt kv ces.toList).run P w = .ok q' w ∧ (Instr.checkKey false 10000 kt kv).run P w = .ok () w := by
          intro q hf
          obtain ⟨q', q1, q2⟩ := findKey_rel hko h2 w hE hf
          exact ⟨q', q2, q1, keyOk_run hko (findK_ok hf) h2 false w⟩
        split at hr
        · rename_i i u hf
          cases hr
          obtain ⟨q', q1, q2, q3⟩ := fin _ hf
          cases q1 with
          | some _ _ u' hu =>
            obtain ⟨_, hat, hsb, hkk⟩ := findK_at hf
            simp only [Nat.sub_zero] at hat
            obtain ⟨k1, u1, e1, e2, e3⟩ := hE.get i _ _ hat
            obtain ⟨rfl, rfl, _⟩ := keyEq_run (P := P) hko hkk h2 e2
            have hE' := hE.set i xa xv h3
            rw [← modify_key e1 fun e => { e with val := xv }] at hE'
            obtain ⟨g1, g2, g3⟩ := map_turn hs hl hb hw (ces.modify i fun e => { e with key := k1, val := xv }) (by rw [Array.toList_modify]; exact hE')
            rw [setK_length] at g1 g2 g3
            have e1' : ces[i]? = some ⟨k1, u1, 0 + i⟩ := by rw [← e1, Array.getElem?_toList]
            refine ⟨ρ, undef, _, .inr ⟨?_, rfl⟩, .undef, g2, g3⟩
            simp only [execOp, ho, hmv, hkv, hxv]
            refine run_skip ?_
            simp [Instr.mapUpdate, run_underlying ht, hgo, q3, q2, Instr.keyThatStays, e1', hsb, g1]
        · rename_i hf
          cases hr
          obtain ⟨q', q1, q2, q3⟩ := fin _ hf
          cases q1
          have hE' := hE.snoc ka kv xa xv h2 h3
          obtain ⟨g1, g2, g3⟩ := map_turn hs hl hb hw (ces.push ⟨kv, xv, 0 + es.length⟩) (by rw [Array.toList_push]; exact hE')
          refine ⟨ρ, undef, _, .inr ⟨?_, rfl⟩, .undef, g2, g3⟩
          simp only [execOp, ho, hmv, hkv, hxv]
          refine run_skip ?_
          simp only [Nat.zero_add, List.length_append, List.length_cons, List.length_nil] at g1
          simp [Instr.mapUpdate, run_underlying ht, hgo, q3, q2, g1]
        · cases hr
    · cases hr
  · cases hr

theorem s_ment (o : Oper) (ha : AR D ρ nt e a) (hs : Sim P ρ H w) {t kt et : TypeId} {ag : Bool} {ks : List Nat} {z : Value} {m k : Operand} {m' k' : Opd} (ho : o.op = .mapEntry t m k) (hm : Opd.of m = some m') (hk : Opd.of k = some k')
    (ht : P.underlying t = some (.map kt et)) (hko : keyO P kt = some (ag, ks)) (hz : zero1 P et = some z)
    (hr : iMent ag ks z (m'.v e) (k'.v e) H = some (v, H')) : Good P ρ H w H' v ((execOp a.eval o).run P w) := by
  have h1 := opd hm ha
  have h2 := opd hk ha
  generalize hmv : a.eval m = mv at h1
  generalize hkv : a.eval k = kv at h2
  generalize m'.v e = ma at hr h1
  generalize k'.v e = ka at hr h2
  have hzv := fun w => run_zeroValue hz w
  unfold iMent at hr
  split at hr
  · rename_i r
    split at hr
    · rename_i es hb
      cases h1 with
      | map _ l hl =>
        obtain ⟨ces, hw, hE⟩ := hs.blks _ _ _ hl hb
        have hgo := MapKept.run_getObj_map (P := P) hw
        have fin : ∀ q, findK ag ks ka es 0 = some q → ∃ q', FR ρ q q' ∧ (Instr.findKey kt kv ces.toList).run P w = .ok q' w ∧ (Instr.checkKey false 10000 kt kv).run P w = .ok () w := by
          intro q hf
          obtain ⟨q', q1, q2⟩ := findKey_rel hko h2 w hE hf
          exact ⟨q', q2, q1, keyOk_run hko (findK_ok hf) h2 false w⟩
        split at hr
        · rename_i i u hf
          cases hr
          obtain ⟨q', q1, q2, q3⟩ := fin _ hf
          cases q1 with
          | some _ _ u' hu =>
            obtain ⟨_, hat, hsb, hkk⟩ := findK_at hf
            simp only [Nat.sub_zero] at hat
            obtain ⟨k1, u1, e1, e2, e3⟩ := hE.get i _ _ hat
            obtain ⟨rfl, rfl, _⟩ := keyEq_run (P := P) hko hkk h2 e2
            have hE' := hE
            have hid : ces.toList.modify i (fun e => { e with key := k1 }) = ces.toList := by
              have := modify_key e1 fun e => e
              rw [this]
              exact List.modify_id i _
            rw [← hid] at hE'
            obtain ⟨g1, g2, g3⟩ := map_turn hs hl hb hw (ces.modify i fun e => { e with key := k1 }) (by rw [Array.toList_modify]; exact hE')
            have e1' : ces[i]? = some ⟨k1, u1, 0 + i⟩ := by rw [← e1, Array.getElem?_toList]
            refine ⟨ρ, .tuple ⟨[u', .int .i64 i]⟩, _, .inl ?_, .tuple _ _ (.cons _ _ _ _ hu (.cons _ _ _ _ (.int _ _) .nil)), g2, g3⟩
            simp only [execOp, ho, hmv, hkv]
            refine run_val ?_
            simp [Instr.mapEntry, run_underlying ht, hgo, q3, q2, Instr.keyThatStays, e1', hsb, g1, goInt]
        · rename_i hf
          cases hr
          obtain ⟨q', q1, q2, q3⟩ := fin _ hf
          cases q1
          have hE' := hE.snoc ka kv z z h2 (VR.zero hz)
          obtain ⟨g1, g2, g3⟩ := map_turn hs hl hb hw (ces.push ⟨kv, z, 0 + es.length⟩) (by rw [Array.toList_push]; exact hE')
          refine ⟨ρ, .tuple ⟨[z, .int .i64 es.length]⟩, _, .inl ?_, .tuple _ _ (.cons _ _ _ _ (VR.zero hz) (.cons _ _ _ _ (.int _ _) .nil)), g2, g3⟩
          simp only [execOp, ho, hmv, hkv]
          refine run_val ?_
          simp only [Nat.zero_add, List.length_append, List.length_cons, List.length_nil] at g1
          simp [Instr.mapEntry, run_underlying ht, hgo, q3, q2, g1, hzv, goInt]
        · cases hr
    · cases hr
  · cases hr

theorem VRE.find : ∀ {i : Nat} {l : List (Value × Value)} {l' : List MapEntry}, VRE ρ i l l' → ∀ (j : Nat), j < l.length → l'.findIdx? (fun e => (e.born : Int) == ((i + j : Nat) : Int)) = some j
  | _, _, _, .nil _, j, h => by simp at h
  | i, _, _, .cons _ q q' u u' l l' hq hu hl, 0, h => by simp [List.findIdx?_cons]
  | i, _, _, .cons _ q q' u u' l l' hq hu hl, j + 1, h => by
    have := VRE.find hl j (by simpa using h)
    have e : i + 1 + j = i + (j + 1) := by omega
    rw [e] at this
    have hne : ((i : Int) == ((i + (j + 1) : Nat) : Int)) = false := by
      rw [beq_eq_false_iff_ne]; omega
    rw [List.findIdx?_cons, hne]
    simp only [Bool.false_eq_true, if_false, this]
    rfl

theorem s_mst (o : Oper) (ha : AR D ρ nt e a) (hs : Sim P ρ H w) {t : TypeId} {m s x : Operand} {m' s' x' : Opd} (ho : o.op = .entryStore t m s x) (hm : Opd.of m = some m') (hk : Opd.of s = some s') (hx : Opd.of x = some x')
    (hr : iMst (m'.v e) (s'.v e) (x'.v e) H = some (v, H')) : Good P ρ H w H' v ((execOp a.eval o).run P w) := by
  have h1 := opd hm ha
  have h2 := opd hk ha
  have h3 := opd hx ha
  generalize hmv : a.eval m = mv at h1
  generalize hkv : a.eval s = kv at h2
  generalize hxv : a.eval x = xv at h3
  generalize m'.v e = ma at hr h1
  generalize s'.v e = ka at hr h2
  generalize x'.v e = xa at hr h3
  unfold iMst at hr
  split at hr
  · rename_i r i
    split at hr
    · rename_i es hb
      split at hr
      · rename_i j hj
        cases hr
        obtain ⟨rfl, hlt⟩ := ix_some hj
        cases h2
        cases h1 with
        | map _ l hl =>
          obtain ⟨ces, hw, hE⟩ := hs.blks _ _ _ hl hb
          have hgo := MapKept.run_getObj_map (P := P) hw
          have hfi := hE.find j hlt
          simp only [Nat.zero_add] at hfi
          have hfi' : ces.findIdx? (fun e => (e.born : Int) == (j : Int)) = some j := by
            rw [← hfi, ← List.findIdx?_toArray]
          have hE' := hE.set j xa xv h3
          obtain ⟨g1, g2, g3⟩ := map_turn hs hl hb hw (ces.modify j fun e => { e with val := xv }) (by rw [Array.toList_modify]; exact hE')
          rw [setK_length] at g1 g2 g3
          refine ⟨ρ, undef, _, .inr ⟨?_, rfl⟩, .undef, g2, g3⟩
          simp only [execOp, ho, hmv, hkv, hxv]
          refine run_skip ?_
          simp [Instr.entryStore, hgo, asInt, asIntOf, hfi', g1]
      · cases hr
    · cases hr
  · cases hr

end Go.Rx
