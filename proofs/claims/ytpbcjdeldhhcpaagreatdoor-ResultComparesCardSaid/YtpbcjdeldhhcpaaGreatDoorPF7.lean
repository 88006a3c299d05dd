/-
  Facts of the program alone, each by the kernel.
-/
import Derived.Test.YtpbcjdeldhhcpaaGreatDoorCards
import Derived.ProofKit
import Derived.JoinedCond
import Derived.ReadAgain
set_option linter.unusedVariables false
set_option linter.unusedSimpArgs false
set_option linter.unusedSectionVars false
set_option maxRecDepth 100000
namespace Go.Proofs.YtpbcjdeldhhcpaaGreatDoor
open Go
noncomputable abbrev PP : Program := Tryz.pinned.checked.prog
theorem fLaid : laidOutB PP = true := by kernel_rfl
theorem fMaps : mapsRowed PP = true := by kernel_rfl
theorem fKeys : PP.plainKeys = true := by kernel_rfl
theorem fHeard : PP.stopsHeard = true := by kernel_rfl
theorem fEnter : PP.mayEnter = true := by kernel_rfl
theorem fFull : ((List.range PP.types.size).all fun t => match PP.underlying t with | some (.slice e) => decide (0 < PP.cellsOf e) | _ => true) = true := by kernel_rfl
theorem own : ownKnob Tryz.prog.godebug = none := by kernel_rfl
end Go.Proofs.YtpbcjdeldhhcpaaGreatDoor
