/-
  Closed facts of the row of ResultCompares, each by the kernel.
-/
import Derived.Test.YtpbcjdeldhhcpaaGreatDoorPF7
set_option linter.unusedVariables false
set_option linter.unusedSimpArgs false
set_option linter.unusedSectionVars false
set_option maxRecDepth 100000
namespace Go.Proofs.YtpbcjdeldhhcpaaGreatDoor.resultCompares
open Go
theorem cInPlace : (Rows.resultComparesRow.inPlace == Tryz.pinned.checked.prog.inPlace 10) = true := by kernel_rfl
theorem cUnfollowed : (Rows.resultComparesRow.unfollowed == Tryz.pinned.checked.prog.unfollowed 10) = true := by kernel_rfl
theorem cRecurses : (Rows.resultComparesRow.recurses == Tryz.pinned.checked.prog.recurses 10) = true := by kernel_rfl
theorem cNamed : (Rows.resultComparesRow.named == Tryz.pinned.checked.prog.varsNamed 10) = true := by kernel_rfl
theorem cLifted : (Rows.resultComparesRow.lifted == Tryz.pinned.checked.prog.liftsFinal) = true := by kernel_rfl
theorem cMake : (Tryz.pinned.checked.prog.make == some Rows.resultComparesRow.make) = true := by kernel_rfl
theorem cClosed : joinedFacts Tryz.pinned.checked.prog 10 Tryz.f10 (OpenSpec.ofChange Rows.resultComparesSpec).bare Rows.resultComparesRow = true := by
  unfold joinedFacts
  rw [show laidOutB Tryz.pinned.checked.prog = true from fLaid, show mapsRowed Tryz.pinned.checked.prog = true from fMaps, cInPlace, cUnfollowed, cRecurses, cNamed, show Tryz.pinned.checked.prog.plainKeys = true from fKeys, show Tryz.pinned.checked.prog.stopsHeard = true from fHeard, show Tryz.pinned.checked.prog.mayEnter = true from fEnter, cLifted, cMake]
  kernel_rfl
theorem cGoes : false = Rows.resultComparesRow.goesBy Tryz.pinned.checked.prog := by kernel_rfl
end Go.Proofs.YtpbcjdeldhhcpaaGreatDoor.resultCompares
