import Derived.Test.YtpbcjdeldhhcpaaGreatDoorAwk0
set_option linter.unusedVariables false
set_option linter.unusedSimpArgs false
set_option linter.unusedSectionVars false
set_option maxRecDepth 100000
noncomputable section
namespace Go.Rx.A7
open Go Go.Rx Go.Proofs.Tryz
theorem p3 : chk (ev (cL (cR (cR (cR body)))) s3.st) .normal s4 = true := by kernel_rfl
theorem p4 : chk (ev (cL (cR (cR (cR (cR body))))) s4.st) .normal s5 = true := by kernel_rfl
end Go.Rx.A7
