import Derived.Test.YtpbcjdeldhhcpaaGreatDoorF6
set_option linter.unusedVariables false
set_option linter.unusedSimpArgs false
set_option linter.unusedSectionVars false
set_option maxRecDepth 100000
set_option maxHeartbeats 4000000
noncomputable section
namespace Go.Rx.C7
open Go Go.Rx Go.Proofs.Tryz
def aloneE (r : Res) : List Int := [bif !isName r.name then 8 else 0, bif !decide (0 ≤ indexS states r.st 0) then 13 else 0, bif !decide (r.st = empty) && decide (0 < (r.vals.length : Int)) then 1 else 0, bif decide (8 < (r.vals.length : Int)) then 5 else 0, bif r.vals.any far then 3 else 0]
theorem indexS_ge : ∀ (l : List ByteArray) (s : ByteArray) (i : Nat), -1 ≤ indexS l s i
  | [], _, _ => by simp [indexS]
  | x :: l, s, i => by
    rw [indexS]; split
    · omega
    · exact indexS_ge l s (i + 1)
theorem vints_free1 (l : List Int) : AV.frees [vints l] = true := by simp [AV.frees, vints_free]
theorem asB (p : Prop) : ∃ q : Bool, p = (q = true) := ⟨@decide p (Classical.propDecidable p), by simp⟩
theorem aloneE_eq (r : Res) : firstE (aloneE r) = checkR r := by
  have hg : (0 ≤ indexS states r.st 0) = ¬ (grade r.st < 0) := by
    unfold grade; exact propext ⟨fun h => by omega, fun h => by omega⟩
  unfold aloneE checkR
  simp only [hg]
  obtain ⟨q, hq⟩ := asB (grade r.st < 0)
  obtain ⟨e, he⟩ := asB (r.st = empty)
  obtain ⟨a, ha⟩ := asB (0 < (r.vals.length : Int))
  obtain ⟨b, hb⟩ := asB (8 < (r.vals.length : Int))
  simp only [hq, he, ha, hb]
  cases isName r.name <;> cases q <;> cases e <;> cases a <;> cases b <;> cases r.vals.any far <;> simp [firstE]
theorem alone_ok (r : Res) (hl : r.vals.length < 1000000000) : PureC prog 93 [vres r] (vint (checkR r)) := by
  rw [← aloneE_eq]
  refine PureC.of tab_ok mixed (fun _ => false) (fn := f93) rfl rfl (by simp [AV.frees, AV.free, vres, encR_free]) ?_
  repeat' ((conv => whnf); first | refine onS (by decide +kernel) ?_ | refine onO rfl ?_ | refine onC (anyFar_ok _ hl) ?_ | refine onC (isName2_ok _) ?_ | refine onC (when_ok _ _) ?_ | refine onC states_ok ?_ | refine onC (contains_ok _ _ (by decide)) ?_ | refine onT ?_ | refine onF ?_ | refine onN (fun h => ?_) (fun h => ?_) | refine ⟨_, rfl, ?_⟩ | refine ⟨_, _, rfl, ?_⟩ | refine onA (by repeat' (first | exact trivial | rfl | constructor)) ?_ | fail)
  all_goals
    refine ⟨_, _, CRuns.lend (first_ok [_, _, _, _, _] (by simp)) (.cons (.frS 0 5 1 trivial rfl (cv_ints [_, _, _, _, _])) .nil) (vints_free1 _) rfl, ?_⟩
    repeat' ((conv => whnf); first | refine onA (by repeat' (first | exact trivial | rfl | constructor)) ?_ | fail)
    refine ⟨.inr rfl, _, _, rfl, .int ?_⟩
    simp [aloneE, h]
end Go.Rx.C7
