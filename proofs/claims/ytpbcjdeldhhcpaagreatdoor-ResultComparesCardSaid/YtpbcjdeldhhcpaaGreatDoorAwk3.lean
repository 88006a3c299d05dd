import Derived.Test.YtpbcjdeldhhcpaaGreatDoorAwk0
set_option linter.unusedVariables false
set_option linter.unusedSimpArgs false
set_option linter.unusedSectionVars false
set_option maxRecDepth 100000
noncomputable section
namespace Go.Rx.A7
open Go Go.Rx Go.Proofs.Tryz
theorem p5 : chk (ev (cL (cR (cR (cR (cR (cR body)))))) s5.st) .normal s6 = true := by kernel_rfl
theorem p6 : chk (ev (cL (cR (cR (cR (cR (cR (cR body))))))) s6.st) .normal s7 = true := by kernel_rfl
end Go.Rx.A7
