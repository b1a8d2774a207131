/- The program's own trial of its law, run in the kernel from one explicit state to the next: the first call of Same. -/
import Derived.Test.YtabhplelhjcdiaaMi20a
namespace Go.Proofs.Ytabhplelhjcdiaa.Mini
open Go.Rx
set_option linter.unusedVariables false
set_option maxRecDepth 100000
set_option maxHeartbeats 0
noncomputable section
theorem same1k : (evN F (trueO []) 2000).f 42 [] H1 = some (K1, H1a) := by kernel_rfl
theorem same1b : (evN F (trueO []) 2000).c (.seq (.reg R43_0) (.seq (.seq (.reg R43_1) (.seq (.reg R43_2) (.cond (.t 19) (.seq (.reg R43_3) .ret) .skip))) (.seq (.reg R43_4) (.seq (.reg R43_5) (.cond (.t 24) (.seq (.reg R43_6) .ret) .skip))))) (envOf [K1, D1] 0 .nil) H1a = some (.normal, E1b, H1b) := by kernel_rfl
theorem same1c : (evN F (trueO []) 2000).c (.regd R43_7 [(2, 1)]) E1b H1b = some (.normal, E1c, H1c) := by kernel_rfl
theorem same1p0 : (evN F (trueO []) 2000).c (.seq (.reg R43_8) (.regd R43_9 [])) E1c H1c = some (.normal, E1p0, H1p0) := by kernel_rfl
theorem same1p1 : (evN F (trueO []) 2000).c B43_0 E1p0 H1p0 = some (.normal, E1p1, H1p1) := by kernel_rfl
theorem same1p2 : (evN F (trueO []) 2000).c B43_0 E1p1 H1p1 = some (.normal, E1p2, H1p2) := by kernel_rfl
theorem same1p3 : (evN F (trueO []) 2000).c B43_0 E1p2 H1p2 = some (.normal, E1p3, H1p3) := by kernel_rfl
theorem same1d : (evN F (trueO []) 2000).c (.seq (.block 0 (.loop B43_0)) (.seq (.reg R43_26) .ret)) E1p3 H1p3 = some (.ret, E1d, H2) := by kernel_rfl
theorem same1v : resV E1d H2 [(4, none), (5, none)] = some V1 := by kernel_rfl
def T1a : List GI := R17_4.drop 1
def T1b : List GI := R17_4.drop 3
def E1x : Env := (E1.s 18 K1).s 19 D1
theorem reg1a (ev : Ev) : Rx.runT ev R17_4 E1 H1 [H1] = runT1 (Rx.runT ev T1a) (some 18) E1 [H1] (ev.f 42 [] H1) := by kernel_rfl
theorem reg1b (ev : Ev) : runT1 (Rx.runT ev T1a) (some 18) E1 [H1] (some (K1, H1a)) = runT1 (Rx.runT ev T1b) (some 20) E1x [H1, H1a, H1a] (ev.f 43 [K1, D1] H1a) := by kernel_rfl
theorem reg1c (ev : Ev) : runT1 (Rx.runT ev T1b) (some 20) E1x [H1, H1a, H1a] (some (V1, H2)) = some (E2, H2, [H1, H1a, H1a, H2, H2, H2, H2, H2, H2]) := by kernel_rfl
theorem reg1d (ev : Ev) : (monoH [H1, H1a, H1a, H2, H2, H2, H2, H2, H2] && staysAll ev R17_4 E2 [H1, H1a, H1a, H2, H2, H2, H2, H2, H2] [(1, 0)]) = true := by kernel_rfl
theorem reg1 (ev : Ev) (h1 : ev.f 42 [] H1 = some (K1, H1a)) (h2 : ev.f 43 [K1, D1] H1a = some (V1, H2)) : runD ev R17_4 [(1, 0)] E1 H1 = some (E2, H2) := by
  have hr := reg1a ev
  rw [h1, reg1b, h2, reg1c] at hr
  unfold runD
  rw [hr]
  simp only [reg1d, cond_true]
end
end Go.Proofs.Ytabhplelhjcdiaa.Mini
