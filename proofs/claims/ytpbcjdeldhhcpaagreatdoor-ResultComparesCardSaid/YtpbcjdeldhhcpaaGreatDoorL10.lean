import Derived.Test.YtpbcjdeldhhcpaaGreatDoorF8
import Derived.Test.YtpbcjdeldhhcpaaGreatDoorAwk5
set_option linter.unusedVariables false
set_option linter.unusedSimpArgs false
set_option linter.unusedSectionVars false
set_option maxRecDepth 100000
set_option maxHeartbeats 4000000
noncomputable section
namespace Go.Rx.C7
open Go Go.Rx Go.Proofs.Tryz
theorem awake_ok : PureC prog 19 [] (.bool true) := PureC.closed (h0 := A7.s0.h) (fun i => rfl) A7.awake_runs rfl
theorem order_zero {a b : Int} : order a b = 0 ↔ a = b := by
  unfold order; split
  · constructor <;> intro h <;> omega
  · split
    · constructor <;> intro h <;> omega
    · constructor <;> intro h <;> omega
theorem cmpL_V : ∀ (x y : List Int), x.length = y.length → cmpL y x = cmpV x y
  | [], [], _ => rfl
  | [], _ :: _, h => by simp at h
  | _ :: _, [], h => by simp at h
  | a :: x, b :: y, h => by
    rw [cmpL, cmpV]
    by_cases hab : a = b
    · rw [if_pos hab, if_pos (order_zero.2 hab.symm)]
      exact cmpL_V x y (by simpa using h)
    · rw [if_neg hab, if_neg (fun he => hab (order_zero.1 he).symm)]
theorem grade_zero (s : ByteArray) : grade s = 0 ↔ s = empty := by
  unfold grade states indexS
  by_cases h : s = empty
  · rw [if_pos h]; simp [h]
  · rw [if_neg h]
    simp only [h, iff_false]
    simp only [indexS]
    (repeat' split) <;> omega
theorem checkR_zero {r : Res} (h : checkR r = 0) : (r.st = empty ∨ r.vals = []) ∧ r.vals.length ≤ 8 := by
  unfold checkR at h
  split at h
  · cases h
  · split at h
    · cases h
    · split at h
      · rename_i he
        split at h
        · cases h
        · exact ⟨.inl he, by omega⟩
      · split at h
        · cases h
        · exact ⟨.inr (List.eq_nil_of_length_eq_zero (by omega)), by omega⟩
theorem firstE3 (x y z : Int) : firstE [x, y, z] = if x = 0 then (if y = 0 then z else y) else x := by
  simp only [firstE]
  (repeat' split) <;> first | rfl | omega
theorem cmpP_R {a b : Res} (ha : checkR a = 0) (hb : checkR b = 0) (hl : a.st = empty → b.st = empty → a.vals.length = b.vals.length) : cmpP a b = cmpR a b := by
  unfold cmpP cmpR
  obtain ⟨ha, _⟩ := checkR_zero ha
  obtain ⟨hb, _⟩ := checkR_zero hb
  by_cases h1 : a.st = empty
  · by_cases h2 : b.st = empty
    · rw [if_pos h1, if_pos h2, if_pos (order_zero.2 (by rw [h1, h2]))]
      exact cmpL_V _ _ (hl h1 h2)
    · rw [if_pos h1, if_neg h2, if_neg (fun he => h2 ((grade_zero _).1 ((order_zero.1 he).symm.trans ((grade_zero _).2 h1))))]
  · rw [if_neg h1]
    by_cases he : order (grade a.st) (grade b.st) = 0
    · have h2 : ¬ b.st = empty := fun h2 => h1 ((grade_zero _).1 ((order_zero.1 he).trans ((grade_zero _).2 h2)))
      rw [if_pos he, ha.resolve_left h1, hb.resolve_left h2, he]; rfl
    · rw [if_neg he]
theorem compares_ok (a b : Res) : PureC prog 10 [vres a, vres b] (.bool true) := by
  refine PureC.of tab_ok mixed (fun _ => false) (fn := f10) rfl rfl (by simp [AV.frees, AV.free, vres, encR_free]) ?_
  repeat' ((conv => whnf); first | refine ⟨_, rfl, ?_⟩ | refine ⟨_, _, rfl, ?_⟩ | refine onO rfl ?_ | fail)
  refine ⟨_, _, CRuns.lend (short_ok [a, b] 2) (.cons (.frS 0 2 3 trivial rfl (CVs.free (frees_flatMap encR_free [a, b]))) (.cons (.free rfl) .nil)) (by simp [AV.frees, vress_free, AV.free, vint]) rfl, ?_⟩
  conv => whnf
  refine onNB (fun h => ?_) (fun hs => ?_)
  · repeat' ((conv => whnf); first | refine onO rfl ?_ | refine onC awake_ok ?_ | fail)
    exact ⟨.inr rfl, _, _, rfl, .bool rfl⟩
  · have ha : a.vals.length ≤ 10 ∧ b.vals.length ≤ 10 := by
      simp [short, shortR] at hs; omega
    obtain ⟨ha, hb⟩ := ha
    have hc : checkC a b = if checkR a = 0 then (if checkR b = 0 then (bif decide (a.st = empty) && (decide (b.st = empty) && !decide ((a.vals.length : Int) = b.vals.length)) then 2 else 0) else checkR b) else checkR a := firstE3 _ _ _
    repeat' ((conv => whnf); first | refine onT ?_ | refine onF ?_ | refine onPt (by assumption) ?_ | refine onPf (by assumption) ?_ | refine onNt (by assumption) ?_ | refine onNf (by assumption) ?_ | refine onN (fun h => ?_) (fun h => ?_) | refine onP (fun h => ?_) (fun h => ?_) | refine ⟨_, rfl, ?_⟩ | refine ⟨_, _, rfl, ?_⟩ | refine onO rfl ?_ | refine onC awake_ok ?_ | refine onC (compare_ok a b (by omega) (by omega)) ?_ | refine onC (checkR_ok _) ?_ | refine onC (cmpR_ok a b (by omega) (by intro h1 h2; first | exact absurd h1 (by assumption) | exact absurd h2 (by assumption) | omega)) ?_ | fail)
    all_goals refine ⟨.inr rfl, _, _, rfl, .bool ?_⟩
    all_goals first
      | rfl
      | (exfalso
         have hm := fun h1 h2 h3 => cmpP_R (a := a) (b := b) h1 h2 h3
         simp_all
         done)
      | (exfalso
         have hm := cmpP_R (a := a) (b := b) (by assumption) (by assumption) (fun _ _ => by omega)
         simp_all
         done)
end Go.Rx.C7
