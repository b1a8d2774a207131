/- The program's own trial of its law, run in the kernel from one explicit state to the next: the second call of Same. -/
import Derived.Test.YtabhplelhjcdiaaMi20a
namespace Go.Proofs.Ytabhplelhjcdiaa.Mini
open Go.Rx
set_option linter.unusedVariables false
set_option maxRecDepth 100000
set_option maxHeartbeats 0
noncomputable section
theorem same2k : (evN F (trueO []) 2000).f 42 [] H2 = some (K2, H2a) := by kernel_rfl
theorem same2b : (evN F (trueO []) 2000).c (.seq (.reg R43_0) (.seq (.seq (.reg R43_1) (.seq (.reg R43_2) (.cond (.t 19) (.seq (.reg R43_3) .ret) .skip))) (.seq (.reg R43_4) (.seq (.reg R43_5) (.cond (.t 24) (.seq (.reg R43_6) .ret) .skip))))) (envOf [K2, D2] 0 .nil) H2a = some (.normal, E2b, H2b) := by kernel_rfl
theorem same2c : (evN F (trueO []) 2000).c (.regd R43_7 [(2, 1)]) E2b H2b = some (.normal, E2c, H2c) := by kernel_rfl
theorem same2d : (evN F (trueO []) 2000).c (.seq (.reg R43_8) (.seq (.regd R43_9 []) (.seq (.block 0 (.loop B43_0)) (.seq (.reg R43_26) .ret)))) E2c H2c = some (.ret, E2d, H3) := by kernel_rfl
theorem same2v : resV E2d H3 [(4, none), (5, none)] = some V2 := by kernel_rfl
def T2a : List GI := R17_5.drop 1
def T2b : List GI := R17_5.drop 3
def E2x : Env := (E2.s 24 K2).s 25 D2
theorem reg2a (ev : Ev) : Rx.runT ev R17_5 E2 H2 [H2] = runT1 (Rx.runT ev T2a) (some 24) E2 [H2] (ev.f 42 [] H2) := by kernel_rfl
theorem reg2b (ev : Ev) : runT1 (Rx.runT ev T2a) (some 24) E2 [H2] (some (K2, H2a)) = runT1 (Rx.runT ev T2b) (some 26) E2x [H2, H2a, H2a] (ev.f 43 [K2, D2] H2a) := by kernel_rfl
theorem reg2c (ev : Ev) : runT1 (Rx.runT ev T2b) (some 26) E2x [H2, H2a, H2a] (some (V2, H3)) = some (E3, H3, [H2, H2a, H2a, H3, H3, H3, H3, H3, H3]) := by kernel_rfl
theorem reg2d (ev : Ev) : (monoH [H2, H2a, H2a, H3, H3, H3, H3, H3, H3] && staysAll ev R17_5 E3 [H2, H2a, H2a, H3, H3, H3, H3, H3, H3] [(1, 0)]) = true := by kernel_rfl
theorem reg2 (ev : Ev) (h1 : ev.f 42 [] H2 = some (K2, H2a)) (h2 : ev.f 43 [K2, D2] H2a = some (V2, H3)) : runD ev R17_5 [(1, 0)] E2 H2 = some (E3, H3) := by
  have hr := reg2a ev
  rw [h1, reg2b, h2, reg2c] at hr
  unfold runD
  rw [hr]
  simp only [reg2d, cond_true]
end
end Go.Proofs.Ytabhplelhjcdiaa.Mini
