import Derived.Test.YtpbcjdeldhhcpaaGreatDoorAwk0
set_option linter.unusedVariables false
set_option linter.unusedSimpArgs false
set_option linter.unusedSectionVars false
set_option maxRecDepth 100000
noncomputable section
namespace Go.Rx.A7
open Go Go.Rx Go.Proofs.Tryz
theorem p0 : chk (ev (cL body) s0.st) .normal s1 = true := by kernel_rfl
theorem p1 : chk (ev (cL (cR body)) s1.st) .normal s2 = true := by kernel_rfl
theorem p2 : chk (ev (cL (cR (cR body))) s2.st) .normal s3 = true := by kernel_rfl
end Go.Rx.A7
