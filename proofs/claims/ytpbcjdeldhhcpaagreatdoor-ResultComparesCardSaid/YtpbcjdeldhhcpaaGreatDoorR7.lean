import Derived.Test.YtpbcjdeldhhcpaaGreatDoorL10
import Derived.Test.YtpbcjdeldhhcpaaGreatDoorSx8
set_option linter.unusedVariables false
set_option linter.unusedSimpArgs false
set_option linter.unusedSectionVars false
set_option maxRecDepth 100000
noncomputable section
namespace Go.Rx.C7
open Go Go.Rx Go.Proofs.Tryz
/-- A result, read. -/
theorem rd_res (w : World) : Rd prog w 97 encR fun r => r.name.size ≤ maxLen ∧ r.st.size ≤ maxLen ∧ (∀ n ∈ r.vals, (Lit.int .i64 n).wf = true) ∧ r.vals.length ≤ maxLen := by
  have hs := Rd.struct (P := prog) (w := w) (t := 97) (m := 3) underlying97 (by kernel_rfl)
    (RdF.cons (m0 := 1) (Rd.str underlying9) rfl (by kernel_rfl) (RdF.cons (m0 := 1) (Rd.str underlying9) rfl (by kernel_rfl) (RdF.cons (m0 := 1) (Rd.slice (m := 1) underlying25 (by kernel_rfl) (Nat.le_refl _) (Rd.int underlying3)) rfl (by kernel_rfl) RdF.nil)))
  refine hs.map (fun p => ⟨p.1, p.2.1, p.2.2.1⟩) (fun a => ?_) (fun a h => ⟨h.1, h.2.1, h.2.2.1.1, h.2.2.1.2⟩)
  obtain ⟨a, b, c, u⟩ := a
  show [AV.str a, AV.str b, vints c] = _
  simp only [List.cons_append, List.nil_append, vints, vone, vlist]
  have : c.map vint = c.flatMap fun n => [AV.int .i64 n] := by rw [List.map_eq_flatMap]; rfl
  rw [this]
end Go.Rx.C7
