import Derived.Test.YtpbcjdeldhhcpaaGreatDoorTab07
import Derived.Test.YtpbcjdeldhhcpaaGreatDoorSx7
import Derived.KernelRfl
set_option linter.unusedVariables false
set_option linter.unusedSimpArgs false
set_option linter.unusedSectionVars false
set_option maxRecDepth 100000
set_option maxHeartbeats 4000000
noncomputable section
namespace Go.Rx.C7
open Go Go.Rx Go.Proofs.Tryz
theorem mixed : prog.follows .mixedOrders = true := by kernel_rfl
def order (a b : Int) : Int := if a < b then -1 else if b < a then 1 else 0
theorem order_ok (a b : Int) : PureC prog 98 [vint a, vint b] (vint (order a b)) := by
  refine PureC.of tab_ok mixed (fun _ => false) (fn := f98) rfl rfl rfl ?_
  repeat' ((conv => whnf); first | refine onP (fun h => ?_) (fun h => ?_) | fail)
  all_goals (refine ⟨.inr rfl, _, _, rfl, .int ?_⟩; simp [order, *] <;> omega)
def letterI (c : Int) : Bool := (decide (97 ≤ c) && decide (c ≤ 122)) || (decide (65 ≤ c) && decide (c ≤ 90))
def letter (c : UInt8) : Bool := letterI c.toNat
def okChar (i : Nat) (c : UInt8) : Bool := letter c || (!decide (i = 0) && ((decide (48 ≤ (c.toNat : Int)) && decide ((c.toNat : Int) ≤ 57)) || decide ((c.toNat : Int) = 95)))
def goName : Nat → List UInt8 → Bool
  | _, [] => true
  | i, c :: l => okChar i c && goName (i + 1) l
def isName (s : ByteArray) : Bool := 1 ≤ s.size && s.size ≤ 24 && goName 0 s.data.toList
theorem isName_ok (s : ByteArray) : PureC prog 116 [.str s] (.bool (isName s)) := by
  refine PureC.of tab_ok mixed (fun _ => false) (fn := f116) rfl rfl rfl ?_
  refine onP (fun h1 => ?_) (fun h1 => ?_)
  · refine onT ?_
    refine ⟨.inr rfl, _, _, rfl, .bool ?_⟩
    have : ¬ (1 ≤ s.size) := by omega
    simp [isName, this]
  · refine onP (fun h2 => ?_) (fun h2 => ?_)
    · refine ⟨.inr rfl, _, _, rfl, .bool ?_⟩
      have : ¬ (s.size ≤ 24) := by omega
      simp [isName, this]
    · have hsz : s.size ≤ 24 := by omega
      refine RWp.loopS tab_ok mixed (σ := Nat) (fun i => SL [(0, some (.str s)), (3, some (.int .i64 i))] 56 [] 0) (fun i => i ≤ s.size ∧ isName s = goName i (s.data.toList.drop i)) (fun i => s.size - i) (fun _ => false) 0 ?_ ?_ ?_
      · simp [isName, hsz]; omega
      · exact Ren.lists [] [] rfl rfl ⟨⟨_, rfl, .free rfl⟩, ⟨_, rfl, .free rfl⟩, trivial⟩ trivial rfl
      · intro i ⟨hi, hn⟩
        refine onP (fun h3 => ?_) (fun h3 => ?_)
        · obtain ⟨c, hc⟩ : ∃ c, s.data.toList[i]? = some c := by
            refine ⟨_, List.getElem?_eq_getElem (by simp; omega)⟩
          have hd : s.data.toList.drop i = c :: s.data.toList.drop (i + 1) := by
            obtain ⟨hlt, he⟩ := List.getElem?_eq_some_iff.1 hc
            rw [List.drop_eq_getElem_cons hlt, he]
          rw [hd, goName] at hn
          refine ⟨_, idx_str tab_ok.toOk rfl (by omega) hc, ?_⟩
          repeat' ((conv => whnf); first | refine onT ?_ | refine onF ?_ | refine onP (fun h => ?_) (fun h => ?_) | refine onN (fun h => ?_) (fun h => ?_) | refine ⟨_, add_int (by omega), ?_⟩)
          all_goals first
            | (refine ⟨.inr rfl, _, _, rfl, .bool ?_⟩; simp_all [okChar, letter, letterI]; done)
            | (refine ⟨i + 1, ?_, ⟨?_, ?_⟩, Ren.lists [] [] rfl rfl ⟨⟨_, rfl, .free rfl⟩, ⟨_, rfl, .free rfl⟩, trivial⟩ trivial rfl⟩
               · omega
               · omega
               · simp_all [okChar, letter, letterI])
        · refine ⟨.inr rfl, _, _, rfl, .bool ?_⟩
          rw [hn, List.drop_of_length_le (by simp; omega), goName]
end Go.Rx.C7
