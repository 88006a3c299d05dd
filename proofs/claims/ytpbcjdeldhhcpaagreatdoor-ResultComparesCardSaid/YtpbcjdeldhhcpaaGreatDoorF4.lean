import Derived.Test.YtpbcjdeldhhcpaaGreatDoorF3
set_option linter.unusedVariables false
set_option linter.unusedSimpArgs false
set_option linter.unusedSectionVars false
set_option maxRecDepth 100000
set_option maxHeartbeats 4000000
noncomputable section
namespace Go.Rx.C7
open Go Go.Rx Go.Proofs.Tryz
def grade (s : ByteArray) : Int := indexS states s 0
theorem grade_ok (s : ByteArray) : PureC prog 138 [.str s] (vint (grade s)) := by
  refine PureC.of tab_ok mixed (fun _ => false) (fn := f138) rfl rfl rfl ?_
  repeat' ((conv => whnf); first | refine onP (fun h => ?_) (fun h => ?_) | fail)
  all_goals (refine ⟨.inr rfl, _, _, rfl, .int ?_⟩; simp [grade, indexS, states, *])
def far (n : Int) : Bool := decide (n < -999999999) || decide (999999999 < n)
theorem far_ok (n : Int) : PureC prog 159 [vint n] (.bool (far n)) := by
  refine PureC.of tab_ok mixed (fun _ => false) (fn := f159) rfl rfl rfl ?_
  repeat' ((conv => whnf); first | refine onP (fun h => ?_) (fun h => ?_) | fail)
  all_goals (refine ⟨.inr rfl, _, _, rfl, .bool ?_⟩; simp [far, *])
theorem findI_any (p : Int → Bool) : ∀ (l : List Int) (i : Nat), decide (0 ≤ findI p l i) = l.any p
  | [], _ => by simp [findI]
  | x :: l, i => by
    rw [findI, List.any_cons]
    cases h : p x with
    | true => simp
    | false => simpa using findI_any p l (i + 1)
theorem anyFar_ok (l : List Int) (hl : l.length < 1000000000) : PureC prog 123 [vints l, .func (.func 159) [] []] (.bool (l.any far)) := by
  refine PureC.of tab_ok mixed (fun _ => false) (fn := f123) rfl rfl (by simp [AV.frees, vints_free, AV.free]) ?_
  repeat' ((conv => whnf); first | refine onO rfl ?_ | refine onC (indexFunc_ok l hl 159 [] [] far rfl rfl rfl far_ok) ?_ | fail)
  exact ⟨.inr rfl, _, _, rfl, .bool (findI_any far l 0)⟩
abbrev empty : ByteArray := ⟨#[]⟩
def checkR (r : Res) : Int :=
  if isName r.name = false then 8
  else if grade r.st < 0 then 13
  else if r.st = empty then (if 8 < (r.vals.length : Int) then 5 else bif r.vals.any far then 3 else 0)
  else if 0 < (r.vals.length : Int) then 1
  else if 8 < (r.vals.length : Int) then 5
  else bif r.vals.any far then 3 else 0
theorem checkR_ok (r : Res) : PureC prog 62 [vres r] (vint (checkR r)) := by
  refine PureC.of tab_ok mixed (fun _ => false) (fn := f62) rfl rfl (by simp [AV.frees, AV.free, vres, encR_free]) ?_
  repeat' ((conv => whnf); first | refine onO rfl ?_ | refine onC (isName_ok _) ?_ | refine onC (grade_ok _) ?_ | refine onP (fun h => ?_) (fun h => ?_) | refine onN (fun h => ?_) (fun h => ?_) | refine onT ?_ | refine onF ?_ | refine onNB (fun h => ?_) (fun h => ?_) | refine ⟨_, rfl, ?_⟩ | refine ⟨_, _, rfl, ?_⟩ | fail)
  all_goals first
    | (refine ⟨.inr rfl, _, _, rfl, .int ?_⟩; unfold checkR; (repeat' split) <;> first | rfl | contradiction | omega | (simp_all; done))
    | (have hq : checkR r = bif r.vals.any far then 3 else 0 := by
         unfold checkR; (repeat' split) <;> first | rfl | contradiction | omega | (simp_all; done)
       rw [hq]
       have hl : r.vals.length ≤ 8 := by omega
       refine RWp.loopS tab_ok mixed (σ := Nat) (fun i => SL [(1, some (.ptr 0 0)), (3, some (vint i))] 46 [(0, some (.cells (encR r) true))] 1) (fun i => i ≤ r.vals.length ∧ r.vals.any far = (r.vals.drop i).any far) (fun i => r.vals.length - i) (fun _ => false) 0 ?_ ?_ ?_
       · simp
       · exact Ren.lists [(0, 0)] [] rfl rfl ⟨⟨_, rfl, .ptr 0 0⟩, ⟨_, rfl, .free rfl⟩, trivial⟩ ⟨⟨_, rfl, rfl, .cells true (CVs.free (encR_free r))⟩, trivial⟩ rfl
       · intro i ⟨hi, hn⟩
         repeat' ((conv => whnf); first | refine ⟨_, rfl, ?_⟩ | fail)
         refine onP (fun h3 => ?_) (fun h3 => ?_)
         · obtain ⟨v, hr, hd⟩ := get_ex (l := r.vals) (i := i) (by omega)
           rw [hd, List.any_cons] at hn
           repeat' ((conv => whnf); first | refine onT ?_ | refine onF ?_ | refine onP (fun h => ?_) (fun h => ?_) | refine ⟨_, ix_view rfl rfl (by omega) h3, ?_⟩ | refine ⟨_, ld_elt rfl hr, ?_⟩ | refine ⟨_, add_int (by omega), ?_⟩ | refine ⟨_, rfl, ?_⟩ | fail)
           all_goals first
             | (refine ⟨.inr rfl, _, _, rfl, .int ?_⟩; simp [far, *]; done)
             | (refine ⟨i + 1, by omega, ⟨by omega, ?_⟩, Ren.lists [(0, 0)] [] rfl rfl ⟨⟨_, rfl, .ptr 0 0⟩, ⟨_, rfl, .free rfl⟩, trivial⟩ ⟨⟨_, rfl, rfl, .cells true (CVs.free (encR_free r))⟩, trivial⟩ rfl⟩
                simp [far, *])
         · refine ⟨.inr rfl, _, _, rfl, .int ?_⟩
           rw [hn, List.drop_of_length_le (by omega)]; rfl)
end Go.Rx.C7
