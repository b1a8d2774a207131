/- The program's own trial of its law: it ends, and yields true. -/
import Derived.Test.YtabhplelhjcdiaaMi20b
import Derived.Test.YtabhplelhjcdiaaMi20c
namespace Go.Proofs.Ytabhplelhjcdiaa.Mini
open Go.Rx
noncomputable section

variable {G : Nat → Option AF} {O : Nat → Option (List Value → Heap → R)}
theorem seqI {a b : AC} {e e1 : Env} {h h1 : Heap} (hr : (evL G O).c a e h = some (.normal, e1, h1)) : (evL G O).c (.seq a b) e h = (evL G O).c b e1 h1 := by
  rw [evL_c_eq]
  show thenC (evL G O) b ((evL G O).c a e h) = _
  rw [hr]
  rfl
theorem seqN {a b : AC} {e e2 : Env} {h h2 : Heap} (hr : (evL G O).c (.seq a b) e h = some (.normal, e2, h2)) : ∃ e1 h1, (evL G O).c a e h = some (.normal, e1, h1) ∧ (evL G O).c b e1 h1 = some (.normal, e2, h2) := by
  rw [evL_c_eq] at hr
  have hr : thenC (evL G O) b ((evL G O).c a e h) = some (.normal, e2, h2) := hr
  generalize hx : (evL G O).c a e h = x at hr
  match x, hr with
  | some (.normal, e1, h1), hr => exact ⟨e1, h1, rfl, hr⟩
  | some (.exit i, e1, h1), hr => cases hr
  | some (.ret, e1, h1), hr => cases hr
  | none, hr => cases hr
theorem trueRC_some {x : RC} (hx : trueRC x = true) : ∃ e h, x = some (.ret, e, h) ∧ isB (e.g 0) true = true := by
  unfold trueRC at hx
  split at hx
  · rename_i e h
    exact ⟨e, h, rfl, hx⟩
  · cases hx
theorem isB_some {v : Value} (hv : isB v true = true) : v = .bool true := by
  unfold isB at hv
  split at hv
  · rename_i b
    cases b
    · cases hv
    · rfl
  · cases hv

theorem blockI {i : Nat} {a : AC} {e e1 : Env} {h h1 : Heap} (hr : (evL G O).c a e h = some (.normal, e1, h1)) : (evL G O).c (.block i (.loop a)) e h = (evL G O).c (.block i (.loop a)) e1 h1 := by
  have hl : (evL G O).c (.loop a) e h = (evL G O).c (.loop a) e1 h1 := by
    rw [evL_c_eq]
    show thenC (evL G O) (.loop a) ((evL G O).c a e h) = _
    rw [hr]
    rfl
  rw [evL_c_eq, evL_c_eq]
  show blockC i ((evL G O).c (.loop a) e h) = blockC i ((evL G O).c (.loop a) e1 h1)
  rw [hl]
theorem seqB {i : Nat} {a b : AC} {e e1 : Env} {h h1 : Heap} (hr : (evL G O).c a e h = some (.normal, e1, h1)) : (evL G O).c (.seq (.block i (.loop a)) b) e h = (evL G O).c (.seq (.block i (.loop a)) b) e1 h1 := by
  rw [evL_c_eq, evL_c_eq]
  show thenC (evL G O) b ((evL G O).c (.block i (.loop a)) e h) = thenC (evL G O) b ((evL G O).c (.block i (.loop a)) e1 h1)
  rw [blockI hr]
theorem upC {n : Nat} {a : AC} {e : Env} {h : Heap} {x : Ex × Env × Heap} (hr : (evN G O n).c a e h = some x) : (evL G O).c a e h = some x := evL_c.2 ⟨n, hr⟩
theorem upF {n f : Nat} {args : List Value} {h : Heap} {x : Value × Heap} (hr : (evN G O n).f f args h = some x) : (evL G O).f f args h = some x := evL_f.2 ⟨n, hr⟩
theorem bodyF {f : Nat} {a : AF} {args : List Value} {h h1 : Heap} {e1 : Env} {v : Value} (hO : O f = none) (hF : G f = some a) (hr : (evL G O).c a.body (envOf args 0 .nil) h = some (.ret, e1, h1)) (hv : resV e1 h1 a.results = some v) : (evL G O).f f args h = some (v, h1) := by
  rw [evL_f_eq, hO]
  show stepF G (evL G O) f args h = _
  unfold stepF
  rw [hF]
  show fEnd a.results ((evL G O).c a.body (envOf args 0 .nil) h) = _
  rw [hr]
  show ret h1 (resV e1 h1 a.results) = _
  rw [hv]
  rfl
theorem same1 : (evL F (trueO [])).f 43 [K1, D1] H1a = some (V1, H2) := by
  obtain ⟨_, _, h0, h1⟩ := seqN (upC same1b)
  obtain ⟨_, _, h1, h2⟩ := seqN h1
  obtain ⟨_, _, h3, h4⟩ := seqN (upC same1p0)
  refine bodyF (a := A43) (e1 := E1d) rfl rfl ?_ same1v
  show (evL F (trueO [])).c (.seq (.reg R43_0) (.seq (.seq (.reg R43_1) (.seq (.reg R43_2) (.cond (.t 19) (.seq (.reg R43_3) .ret) .skip))) (.seq (.seq (.reg R43_4) (.seq (.reg R43_5) (.cond (.t 24) (.seq (.reg R43_6) .ret) .skip))) (.seq (.regd R43_7 [(2, 1)]) (.seq (.reg R43_8) (.seq (.regd R43_9 []) (.seq (.block 0 (.loop B43_0)) (.seq (.reg R43_26) .ret)))))))) _ _ = _
  rw [seqI h0, seqI h1, seqI h2, seqI (upC same1c), seqI h3, seqI h4, seqB (upC same1p1), seqB (upC same1p2), seqB (upC same1p3), upC same1d]
theorem same2 : (evL F (trueO [])).f 43 [K2, D2] H2a = some (V2, H3) := by
  obtain ⟨_, _, h0, h1⟩ := seqN (upC same2b)
  obtain ⟨_, _, h1, h2⟩ := seqN h1
  refine bodyF (a := A43) (e1 := E2d) rfl rfl ?_ same2v
  show (evL F (trueO [])).c (.seq (.reg R43_0) (.seq (.seq (.reg R43_1) (.seq (.reg R43_2) (.cond (.t 19) (.seq (.reg R43_3) .ret) .skip))) (.seq (.seq (.reg R43_4) (.seq (.reg R43_5) (.cond (.t 24) (.seq (.reg R43_6) .ret) .skip))) (.seq (.regd R43_7 [(2, 1)]) (.seq (.reg R43_8) (.seq (.regd R43_9 []) (.seq (.block 0 (.loop B43_0)) (.seq (.reg R43_26) .ret)))))))) _ _ = _
  rw [seqI h0, seqI h1, seqI h2, seqI (upC same2c), upC same2d]
theorem regdI {l : List GI} {ps : List (Nat × Nat)} {e e1 : Env} {h h1 : Heap} (hr : runD (evL G O) l ps e h = some (e1, h1)) : (evL G O).c (.regd l ps) e h = some (.normal, e1, h1) := by
  rw [evL_c_eq]
  show regC (runD (evL G O) l ps e h) = _
  rw [hr]
  rfl

theorem run17 : ∃ n, isTrueR ((evN F (trueO []) n).f 17 [] emptyH) = true := by
  have h1 : (evL F (trueO [])).c _ _ _ = _ := evL_c.2 ⟨2000, run1⟩
  have h2 : (evL F (trueO [])).c (.regd R17_4 [(1, 0)]) E1 H1 = _ := regdI (reg1 _ (upF same1k) same1)
  have h3 : (evL F (trueO [])).c (.regd R17_5 [(1, 0)]) E2 H2 = _ := regdI (reg2 _ (upF same2k) same2)
  obtain ⟨e, h, hx, hb⟩ := trueRC_some run4
  have h4 : (evL F (trueO [])).c _ _ _ = _ := evL_c.2 ⟨2000, hx⟩
  obtain ⟨_, _, ha, h1⟩ := seqN h1
  obtain ⟨_, _, hb1, h1⟩ := seqN h1
  obtain ⟨_, _, hc, hd⟩ := seqN h1
  have hbody : (evL F (trueO [])).c A17.body .nil emptyH = some (.ret, e, h) := by
    show (evL F (trueO [])).c (.seq (.reg R17_0) (.seq (.reg R17_1) (.seq (.reg R17_2) (.seq (.reg R17_3) (.seq (.regd R17_4 [(1, 0)]) (.seq (.regd R17_5 [(1, 0)]) (.seq (.reg R17_6) (.seq (.reg R17_7) .ret)))))))) .nil emptyH = _
    rw [seqI ha, seqI hb1, seqI hc, seqI hd, seqI h2, seqI h3, h4]
  have hf : (evL F (trueO [])).f 17 [] emptyH = some (.bool true, h) := by
    rw [evL_f_eq]
    show fEnd A17.results ((evL F (trueO [])).c A17.body .nil emptyH) = _
    rw [hbody]
    show ret h (some (e.g 0)) = _
    rw [isB_some hb]
    rfl
  obtain ⟨n, hn⟩ := evL_f.1 hf
  exact ⟨n, by rw [hn]; rfl⟩
end
end Go.Proofs.Ytabhplelhjcdiaa.Mini
