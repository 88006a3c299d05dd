import Derived.Test.YtpbcjdeldhhcpaaGreatDoorF7
set_option linter.unusedVariables false
set_option linter.unusedSimpArgs false
set_option linter.unusedSectionVars false
set_option maxRecDepth 100000
set_option maxHeartbeats 4000000
noncomputable section
namespace Go.Rx.C7
open Go Go.Rx Go.Proofs.Tryz
def cmpP (a b : Res) : Int := if order (grade a.st) (grade b.st) = 0 then cmpL b.vals a.vals else order (grade a.st) (grade b.st)
theorem cmpP_ok (a b : Res) (hb : b.vals.length < 1000000000) : PureC prog 89 [vres a, vres b] (vint (cmpP a b)) := by
  refine PureC.of tab_ok mixed (fun _ => false) (fn := f89) rfl rfl (by simp [AV.frees, AV.free, vres, encR_free]) ?_
  repeat' ((conv => whnf); first | refine onS (by decide +kernel) ?_ | refine onO rfl ?_ | refine onC states_ok ?_ | refine onC (index_ok _ _ (by decide)) ?_ | refine onC (cmpI_ok _ _) ?_ | refine onC (cmpSlices_ok _ _ hb) ?_ | refine onN (fun h => ?_) (fun h => ?_) | refine ⟨_, rfl, ?_⟩ | refine ⟨_, _, rfl, ?_⟩ | refine onA (by repeat' (first | exact trivial | rfl | constructor)) ?_ | fail)
  · refine ⟨.inr rfl, _, _, rfl, .int ?_⟩
    rw [cmpP, if_neg (show ¬ order (grade a.st) (grade b.st) = 0 from h)]; rfl
  · refine ⟨.inr rfl, _, _, rfl, .int ?_⟩
    rw [cmpP, if_pos (show order (grade a.st) (grade b.st) = 0 from h)]
def checkC (a b : Res) : Int :=
  firstE [checkR a, checkR b, bif decide (a.st = empty) && (decide (b.st = empty) && !decide ((a.vals.length : Int) = b.vals.length)) then 2 else 0]
theorem compare_ok (a b : Res) (ha : a.vals.length < 1000000000) (hb : b.vals.length < 1000000000) :
    PureC prog 61 [vres a, vres b] (.tuple [vint (if checkC a b = 0 then cmpP a b else 0), vint (checkC a b)]) := by
  refine PureC.of tab_ok mixed (fun _ => false) (fn := f61) rfl rfl (by simp [AV.frees, AV.free, vres, encR_free]) ?_
  repeat' ((conv => whnf); first | refine onS (by decide +kernel) ?_ | refine onO rfl ?_ | refine onC (alone_ok a ha) ?_ | refine onC (alone_ok b hb) ?_ | refine onC (when_ok _ _) ?_ | refine onT ?_ | refine onF ?_ | refine onN (fun h => ?_) (fun h => ?_) | refine onP (fun h => ?_) (fun h => ?_) | refine ⟨_, rfl, ?_⟩ | refine ⟨_, _, rfl, ?_⟩ | fail)
  all_goals
    refine ⟨_, _, CRuns.lend (first_ok [_, _, _] (by simp)) (.cons (.frS 0 3 1 trivial rfl (cv_ints [_, _, _])) .nil) (vints_free1 _) rfl, ?_⟩
    have he : ∀ x, (bif decide (a.st = empty) && (decide (b.st = empty) && !decide ((a.vals.length : Int) = b.vals.length)) then 2 else 0) = x → firstE [checkR a, checkR b, x] = checkC a b := fun x hx => by rw [checkC, hx]
    repeat' ((conv => whnf); first | refine onA (by repeat' (first | exact trivial | rfl | constructor)) ?_ | refine onN (fun h => ?_) (fun h => ?_) | refine ⟨_, rfl, ?_⟩ | refine onO rfl ?_ | refine onC (cmpP_ok a b hb) ?_  | fail)
  all_goals
    rw [he _ (by simp [*])] at h
    refine ⟨.inr rfl, _, _, rfl, .free ?_ rfl⟩
    first
      | rw [if_pos h, h]; rfl
      | (rw [if_neg h]
         show AV.tuple [.int .i64 0, .int .i64 (firstE _)] = _
         rw [he _ (by simp [*])]; rfl)
end Go.Rx.C7
