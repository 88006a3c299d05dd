import Derived.Test.YtpbcjdeldhhcpaaGreatDoorAwk0
set_option linter.unusedVariables false
set_option linter.unusedSimpArgs false
set_option linter.unusedSectionVars false
set_option maxRecDepth 100000
noncomputable section
namespace Go.Rx.A7
open Go Go.Rx Go.Proofs.Tryz
theorem p7 : chk (ev (cL (cR (cR (cR (cR (cR (cR (cR body)))))))) s7.st) .normal s8 = true := by kernel_rfl
theorem p8 : chk (ev (cL (cR (cR (cR (cR (cR (cR (cR (cR body))))))))) s8.st) .normal s9 = true := by kernel_rfl
theorem p9 : chk (ev (cL (cR (cR (cR (cR (cR (cR (cR (cR (cR body)))))))))) s9.st) .normal s10 = true := by kernel_rfl
theorem p10 : chk (ev (cL (cR (cR (cR (cR (cR (cR (cR (cR (cR (cR body))))))))))) s10.st) .normal s11 = true := by kernel_rfl
theorem p11 : chk (ev (cL (cR (cR (cR (cR (cR (cR (cR (cR (cR (cR (cR body)))))))))))) s11.st) .normal s12 = true := by kernel_rfl
theorem p12 : chk (ev (cL (cR (cR (cR (cR (cR (cR (cR (cR (cR (cR (cR (cR body))))))))))))) s12.st) .normal s13 = true := by kernel_rfl
theorem p13 : chk (ev (cL (cR (cR (cR (cR (cR (cR (cR (cR (cR (cR (cR (cR (cR body)))))))))))))) s13.st) .normal s14 = true := by kernel_rfl
theorem p14 : chk (ev (cL (cR (cR (cR (cR (cR (cR (cR (cR (cR (cR (cR (cR (cR (cR body))))))))))))))) s14.st) .normal s15 = true := by kernel_rfl
theorem p15 : chk (ev (cL (cR (cR (cR (cR (cR (cR (cR (cR (cR (cR (cR (cR (cR (cR (cR body)))))))))))))))) s15.st) .normal s16 = true := by kernel_rfl
theorem p16 : chk (ev (cL (cR (cR (cR (cR (cR (cR (cR (cR (cR (cR (cR (cR (cR (cR (cR (cR body))))))))))))))))) s16.st) .normal s17 = true := by kernel_rfl
theorem p17 : chk (ev (cL (cR (cR (cR (cR (cR (cR (cR (cR (cR (cR (cR (cR (cR (cR (cR (cR (cR body)))))))))))))))))) s17.st) .normal s18 = true := by kernel_rfl
theorem p18 : chk (ev (cR (cR (cR (cR (cR (cR (cR (cR (cR (cR (cR (cR (cR (cR (cR (cR (cR (cR body)))))))))))))))))) s18.st) .ret s19 = true := by kernel_rfl
end Go.Rx.A7
