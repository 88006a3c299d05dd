import Derived.Test.YtpbcjdeldhhcpaaGreatDoorF5
set_option linter.unusedVariables false
set_option linter.unusedSimpArgs false
set_option linter.unusedSectionVars false
set_option maxRecDepth 100000
set_option maxHeartbeats 4000000
noncomputable section
namespace Go.Rx.C7
open Go Go.Rx Go.Proofs.Tryz
def firstE : List Int → Int
  | [] => 0
  | x :: l => if x = 0 then firstE l else x
theorem first_ok (l : List Int) (hl : l.length < 1000000000) : PureC prog 90 [vints l] (vint (firstE l)) := by
  refine PureC.of tab_ok mixed (fun _ => false) (fn := f90) rfl rfl (by simp [AV.frees, vints_free]) ?_
  conv => whnf
  refine RWp.loopS tab_ok mixed (σ := Nat) (fun i => SL [(5, some (vints l)), (6, some (vint l.length)), (7, some (vint i))] 15 [] 0) (fun i => i ≤ l.length ∧ firstE l = firstE (l.drop i)) (fun i => l.length - i) (fun _ => false) 0 ?_ ?_ ?_
  · simp
  · exact Ren.lists [] [] rfl rfl ⟨⟨_, rfl, .free (vints_free l)⟩, ⟨_, rfl, .free rfl⟩, ⟨_, rfl, .free rfl⟩, trivial⟩ trivial rfl
  · intro i ⟨hi, hn⟩
    conv => whnf
    refine onP (fun h3 => ?_) (fun h3 => ?_)
    · obtain ⟨r, hr, hd⟩ := get_ex (l := l) (i := i) (by omega)
      rw [hd, firstE] at hn
      repeat' ((conv => whnf); first | refine onN (fun h => ?_) (fun h => ?_) | refine ⟨_, ix_view rfl rfl (by omega) h3, ?_⟩ | refine ⟨_, ld_elt rfl hr, ?_⟩ | refine ⟨_, add_int (by omega), ?_⟩ | fail)
      · exact ⟨.inr rfl, _, _, rfl, .int (by rw [hn, if_neg h])⟩
      · refine ⟨i + 1, by omega, ⟨by omega, by rw [hn, if_pos h]⟩, Ren.lists [] [] rfl rfl ⟨⟨_, rfl, .free (vints_free l)⟩, ⟨_, rfl, .free rfl⟩, ⟨_, rfl, .free rfl⟩, trivial⟩ trivial rfl⟩
    · refine ⟨.inr rfl, _, _, rfl, .int ?_⟩
      rw [hn, List.drop_of_length_le (by omega), firstE]
def cmpL : List Int → List Int → Int
  | [], [] => 0
  | [], _ :: _ => -1
  | _ :: _, [] => 1
  | x :: xs, y :: ys => if order x y = 0 then cmpL xs ys else order x y
theorem cmpSlices_ok (a b : List Int) (hl : a.length < 1000000000) : PureC prog 141 [vints a, vints b] (vint (cmpL a b)) := by
  refine PureC.of tab_ok mixed (fun _ => false) (fn := f141) rfl rfl (by simp [AV.frees, vints_free]) ?_
  conv => whnf
  refine RWp.loopS tab_ok mixed (σ := Nat) (fun i => SL [(0, some (vints a)), (1, some (vints b)), (9, some (vints a)), (10, some (vint a.length)), (11, some (vint i))] 36 [] 0) (fun i => i ≤ a.length ∧ i ≤ b.length ∧ cmpL a b = cmpL (a.drop i) (b.drop i)) (fun i => a.length - i) (fun _ => false) 0 ?_ ?_ ?_
  · simp
  · exact Ren.lists [] [] rfl rfl ⟨⟨_, rfl, .free (vints_free a)⟩, ⟨_, rfl, .free (vints_free b)⟩, ⟨_, rfl, .free (vints_free a)⟩, ⟨_, rfl, .free rfl⟩, ⟨_, rfl, .free rfl⟩, trivial⟩ trivial rfl
  · intro i ⟨hi, hib, hn⟩
    conv => whnf
    refine onP (fun h3 => ?_) (fun h3 => ?_)
    · obtain ⟨x, hx, hdx⟩ := get_ex (l := a) (i := i) (by omega)
      repeat' ((conv => whnf); first | refine ⟨_, ix_view rfl rfl (by omega) h3, ?_⟩ | refine ⟨_, ld_elt rfl hx, ?_⟩ | fail)
      refine onP (fun h4 => ?_) (fun h4 => ?_)
      · refine ⟨.inr rfl, _, _, rfl, .int ?_⟩
        rw [hn, hdx, List.drop_of_length_le (show b.length ≤ i by omega), cmpL]
      · obtain ⟨y, hy, hdy⟩ := get_ex (l := b) (i := i) (by omega)
        rw [hdx, hdy, cmpL] at hn
        repeat' ((conv => whnf); first | refine onO rfl ?_ | refine onC (cmpI_ok _ _) ?_ | refine onN (fun h => ?_) (fun h => ?_) | refine ⟨_, ix_view rfl rfl (by omega) (by omega), ?_⟩ | refine ⟨_, ld_elt rfl hy, ?_⟩ | refine ⟨_, add_int (by omega), ?_⟩ | fail)
        · exact ⟨.inr rfl, _, _, rfl, .int (by rw [hn, if_neg h])⟩
        · refine ⟨i + 1, by omega, ⟨by omega, by omega, by rw [hn, if_pos h]⟩, Ren.lists [] [] rfl rfl ⟨⟨_, rfl, .free (vints_free a)⟩, ⟨_, rfl, .free (vints_free b)⟩, ⟨_, rfl, .free (vints_free a)⟩, ⟨_, rfl, .free rfl⟩, ⟨_, rfl, .free rfl⟩, trivial⟩ trivial rfl⟩
    · have ha : i = a.length := by omega
      repeat' ((conv => whnf); first | refine onP (fun h => ?_) (fun h => ?_) | fail)
      · obtain ⟨y, hy, hdy⟩ := get_ex (l := b) (i := i) (by omega)
        refine ⟨.inr rfl, _, _, rfl, .int ?_⟩
        rw [hn, hdy, List.drop_of_length_le (show a.length ≤ i by omega), cmpL]
      · refine ⟨.inr rfl, _, _, rfl, .int ?_⟩
        rw [hn, List.drop_of_length_le (by omega), List.drop_of_length_le (by omega), cmpL]
def cmpV : List Int → List Int → Int
  | x :: xs, y :: ys => if x = y then cmpV xs ys else order y x
  | _, _ => 0
def cmpR (a b : Res) : Int := if a.st = empty then (if b.st = empty then cmpV a.vals b.vals else order (grade a.st) (grade b.st)) else order (grade a.st) (grade b.st)
theorem cmpR_ok (a b : Res) (hl : a.vals.length < 1000000000) (hab : a.st = empty → b.st = empty → a.vals.length = b.vals.length) : PureC prog 63 [vres a, vres b] (vint (cmpR a b)) := by
  refine PureC.of tab_ok mixed (fun _ => false) (fn := f63) rfl rfl (by simp [AV.frees, AV.free, vres, encR_free]) ?_
  repeat' ((conv => whnf); first | refine onS (by decide +kernel) ?_ | refine onO rfl ?_ | refine onC (grade_ok _) ?_ | refine onC (order_ok _ _) ?_ | refine onT ?_ | refine onF ?_ | refine onN (fun h => ?_) (fun h => ?_) | refine ⟨_, rfl, ?_⟩ | refine ⟨_, _, rfl, ?_⟩ | refine onA (by repeat' (first | exact trivial | rfl | constructor)) ?_ | fail)
  · refine ⟨.inr rfl, _, _, rfl, .int ?_⟩
    rw [cmpR, if_neg h]
  · refine ⟨.inr rfl, _, _, rfl, .int ?_⟩
    rename_i h0
    rw [cmpR, if_pos h0, if_neg h]
  · rename_i h0
    have hab := hab h0 h
    rw [cmpR, if_pos h0, if_pos h]
    refine RWp.loopS tab_ok mixed (σ := Nat) (fun i => SL [(2, some (.ptr 0 0)), (3, some (.ptr 1 0)), (5, some (vint i))] 50 [(0, some (.cells (encR a) true)), (1, some (.cells (encR b) true))] 2) (fun i => i ≤ a.vals.length ∧ cmpV a.vals b.vals = cmpV (a.vals.drop i) (b.vals.drop i)) (fun i => a.vals.length - i) (fun _ => false) 0 ?_ ?_ ?_
    · simp
    · exact Ren.lists [(0, 0), (1, 1)] [] rfl rfl ⟨⟨_, rfl, .ptr 0 0⟩, ⟨_, rfl, .ptr 1 0⟩, ⟨_, rfl, .free rfl⟩, trivial⟩ ⟨⟨_, rfl, rfl, .cells true (CVs.free (encR_free a))⟩, ⟨_, rfl, rfl, .cells true (CVs.free (encR_free b))⟩, trivial⟩ rfl
    · intro i ⟨hi, hn⟩
      repeat' ((conv => whnf); first | refine ⟨_, rfl, ?_⟩ | fail)
      refine onP (fun h3 => ?_) (fun h3 => ?_)
      · obtain ⟨x, hx, hdx⟩ := get_ex (l := a.vals) (i := i) (by omega)
        obtain ⟨y, hy, hdy⟩ := get_ex (l := b.vals) (i := i) (by omega)
        rw [hdx, hdy, cmpV] at hn
        have h4 : (i : Int) < b.vals.length := by omega
        repeat' ((conv => whnf); first | refine onS (by decide +kernel) ?_ | refine onO rfl ?_ | refine onC (order_ok _ _) ?_ | refine onN (fun h => ?_) (fun h => ?_) | refine ⟨_, ix_view rfl rfl (by omega) h3, ?_⟩ | refine ⟨_, ix_view rfl rfl (by omega) h4, ?_⟩ | refine ⟨_, ld_elt rfl hx, ?_⟩ | refine ⟨_, ld_elt rfl hy, ?_⟩ | refine ⟨_, add_int (by omega), ?_⟩ | refine ⟨_, rfl, ?_⟩ | refine onA (by repeat' (first | exact trivial | rfl | constructor)) ?_ | fail)
        · exact ⟨.inr rfl, _, _, rfl, .int (by rw [hn, if_neg h])⟩
        · refine ⟨i + 1, by omega, ⟨by omega, by rw [hn, if_pos h]⟩, Ren.lists [(0, 0), (1, 1)] [] rfl rfl ⟨⟨_, rfl, .ptr 0 0⟩, ⟨_, rfl, .ptr 1 0⟩, ⟨_, rfl, .free rfl⟩, trivial⟩ ⟨⟨_, rfl, rfl, .cells true (CVs.free (encR_free a))⟩, ⟨_, rfl, rfl, .cells true (CVs.free (encR_free b))⟩, trivial⟩ rfl⟩
      · refine ⟨.inr rfl, _, _, rfl, .int ?_⟩
        rw [hn, List.drop_of_length_le (l := a.vals) (by omega)]
        rfl
end Go.Rx.C7
