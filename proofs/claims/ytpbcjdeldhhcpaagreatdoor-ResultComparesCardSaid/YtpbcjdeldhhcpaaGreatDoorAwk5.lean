import Derived.Test.YtpbcjdeldhhcpaaGreatDoorAwk1
import Derived.Test.YtpbcjdeldhhcpaaGreatDoorAwk2
import Derived.Test.YtpbcjdeldhhcpaaGreatDoorAwk3
import Derived.Test.YtpbcjdeldhhcpaaGreatDoorAwk4
set_option linter.unusedVariables false
set_option linter.unusedSimpArgs false
set_option linter.unusedSectionVars false
set_option maxRecDepth 100000
noncomputable section
namespace Go.Rx.A7
open Go Go.Rx Go.Proofs.Tryz
theorem follows : prog.follows .mixedOrders = true := by kernel_rfl
theorem r18 : Runs prog none (cR (cR (cR (cR (cR (cR (cR (cR (cR (cR (cR (cR (cR (cR (cR (cR (cR (cR body)))))))))))))))))) s18.st .ret s19.st := Runs.ev (rd := none) C7.tab_ok follows ext_ok p18
theorem r17 : Runs prog none (cR (cR (cR (cR (cR (cR (cR (cR (cR (cR (cR (cR (cR (cR (cR (cR (cR body))))))))))))))))) s17.st .ret s19.st := Runs.both (by kernel_rfl) (Runs.ev (rd := none) C7.tab_ok follows ext_ok p17) r18
theorem r16 : Runs prog none (cR (cR (cR (cR (cR (cR (cR (cR (cR (cR (cR (cR (cR (cR (cR (cR body)))))))))))))))) s16.st .ret s19.st := Runs.both (by kernel_rfl) (Runs.ev (rd := none) C7.tab_ok follows ext_ok p16) r17
theorem r15 : Runs prog none (cR (cR (cR (cR (cR (cR (cR (cR (cR (cR (cR (cR (cR (cR (cR body))))))))))))))) s15.st .ret s19.st := Runs.both (by kernel_rfl) (Runs.ev (rd := none) C7.tab_ok follows ext_ok p15) r16
theorem r14 : Runs prog none (cR (cR (cR (cR (cR (cR (cR (cR (cR (cR (cR (cR (cR (cR body)))))))))))))) s14.st .ret s19.st := Runs.both (by kernel_rfl) (Runs.ev (rd := none) C7.tab_ok follows ext_ok p14) r15
theorem r13 : Runs prog none (cR (cR (cR (cR (cR (cR (cR (cR (cR (cR (cR (cR (cR body))))))))))))) s13.st .ret s19.st := Runs.both (by kernel_rfl) (Runs.ev (rd := none) C7.tab_ok follows ext_ok p13) r14
theorem r12 : Runs prog none (cR (cR (cR (cR (cR (cR (cR (cR (cR (cR (cR (cR body)))))))))))) s12.st .ret s19.st := Runs.both (by kernel_rfl) (Runs.ev (rd := none) C7.tab_ok follows ext_ok p12) r13
theorem r11 : Runs prog none (cR (cR (cR (cR (cR (cR (cR (cR (cR (cR (cR body))))))))))) s11.st .ret s19.st := Runs.both (by kernel_rfl) (Runs.ev (rd := none) C7.tab_ok follows ext_ok p11) r12
theorem r10 : Runs prog none (cR (cR (cR (cR (cR (cR (cR (cR (cR (cR body)))))))))) s10.st .ret s19.st := Runs.both (by kernel_rfl) (Runs.ev (rd := none) C7.tab_ok follows ext_ok p10) r11
theorem r9 : Runs prog none (cR (cR (cR (cR (cR (cR (cR (cR (cR body))))))))) s9.st .ret s19.st := Runs.both (by kernel_rfl) (Runs.ev (rd := none) C7.tab_ok follows ext_ok p9) r10
theorem r8 : Runs prog none (cR (cR (cR (cR (cR (cR (cR (cR body)))))))) s8.st .ret s19.st := Runs.both (by kernel_rfl) (Runs.ev (rd := none) C7.tab_ok follows ext_ok p8) r9
theorem r7 : Runs prog none (cR (cR (cR (cR (cR (cR (cR body))))))) s7.st .ret s19.st := Runs.both (by kernel_rfl) (Runs.ev (rd := none) C7.tab_ok follows ext_ok p7) r8
theorem r6 : Runs prog none (cR (cR (cR (cR (cR (cR body)))))) s6.st .ret s19.st := Runs.both (by kernel_rfl) (Runs.ev (rd := none) C7.tab_ok follows ext_ok p6) r7
theorem r5 : Runs prog none (cR (cR (cR (cR (cR body))))) s5.st .ret s19.st := Runs.both (by kernel_rfl) (Runs.ev (rd := none) C7.tab_ok follows ext_ok p5) r6
theorem r4 : Runs prog none (cR (cR (cR (cR body)))) s4.st .ret s19.st := Runs.both (by kernel_rfl) (Runs.ev (rd := none) C7.tab_ok follows ext_ok p4) r5
theorem r3 : Runs prog none (cR (cR (cR body))) s3.st .ret s19.st := Runs.both (by kernel_rfl) (Runs.ev (rd := none) C7.tab_ok follows ext_ok p3) r4
theorem r2 : Runs prog none (cR (cR body)) s2.st .ret s19.st := Runs.both (by kernel_rfl) (Runs.ev (rd := none) C7.tab_ok follows ext_ok p2) r3
theorem r1 : Runs prog none (cR body) s1.st .ret s19.st := Runs.both (by kernel_rfl) (Runs.ev (rd := none) C7.tab_ok follows ext_ok p1) r2
theorem r0 : Runs prog none body s0.st .ret s19.st := Runs.both (by kernel_rfl) (Runs.ev (rd := none) C7.tab_ok follows ext_ok p0) r1
noncomputable def hend : H := match evEnd C7.tab f19 s19.st with
  | some (_, h) => h
  | none => s0.h
theorem ends : evEnd C7.tab f19 s19.st = some (.bool true, hend) := by kernel_rfl
theorem fn_is : C7.tab.fn 19 = some f19 := by kernel_rfl
theorem awake_runs : CRuns prog 19 [] s0.h (.bool true) hend := Runs.call_lit C7.tab_ok fn_is body_is r0 ends
/-- awake() returns true, in whatever world, and what was there stays. -/
theorem awake (w : World) : Calls prog 19 #[] w (fun e w' => e = .returned (.bool true) ∧ RowKit.Below w.heap.size w w') :=
  (CRuns.closed (by kernel_rfl) awake_runs w).mono fun _ _ ⟨_, _, h1, h2, h3⟩ => ⟨by rw [h1]; cases h2; rfl, h3⟩
end Go.Rx.A7
