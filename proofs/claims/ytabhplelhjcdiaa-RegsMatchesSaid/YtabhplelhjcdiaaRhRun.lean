/- The trial of the law (patterns), run in the kernel. -/
import Derived.Test.YtabhplelhjcdiaaRxRow0
import Derived.Test.YtabhplelhjcdiaaRhC
import Derived.KernelRfl
namespace Go.Proofs.Ytabhplelhjcdiaa.Regs
open Go.Rx
set_option linter.unusedVariables false
set_option maxRecDepth 100000
noncomputable section
def FA : Nat → Option AF := tabF [(22, A22), (23, A23), (30, A30), (51, A51), (52, A52), (53, A53), (54, A54), (55, A55), (57, A57), (59, A59), (60, A60), (74, A74), (75, A75), (76, A76), (77, A77), (81, A81), (82, A82), (83, A83), (84, A84), (91, A91), (92, A92), (93, A93), (94, A94), (95, A95), (96, A96), (97, A97), (98, A98), (99, A99), (102, A102), (103, A103), (104, A104), (105, A105), (106, A106), (113, A113), (118, A118), (119, A119), (120, A120), (121, A121), (122, A122), (128, A128), (129, A129)]
def ER : Ev := evN FA (trueO []) 2000
def OA : Nat → Option (List Value → Heap → R) := fun f => bif Nat.beq f 31 then some (dfRun 58 D31 ER) else none
set_option maxHeartbeats 0 in
theorem run23 : isTrueR ((evN FA OA 2000).f 23 [] emptyH) = true := by kernel_rfl
end
end Go.Proofs.Ytabhplelhjcdiaa.Regs
