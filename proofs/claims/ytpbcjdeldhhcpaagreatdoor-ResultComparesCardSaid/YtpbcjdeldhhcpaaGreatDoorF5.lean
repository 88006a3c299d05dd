import Derived.Test.YtpbcjdeldhhcpaaGreatDoorF4
set_option linter.unusedVariables false
set_option linter.unusedSimpArgs false
set_option linter.unusedSectionVars false
set_option maxRecDepth 100000
set_option maxHeartbeats 4000000
noncomputable section
namespace Go.Rx.C7
open Go Go.Rx Go.Proofs.Tryz
theorem isLetter_ok (c : Int) : PureC prog 178 [.int .i32 c] (.bool (letterI c)) := by
  refine PureC.of tab_ok mixed (fun _ => false) (fn := f178) rfl rfl rfl ?_
  repeat' ((conv => whnf); first | refine onT ?_ | refine onF ?_ | refine onP (fun h => ?_) (fun h => ?_) | fail)
  all_goals (refine ⟨.inr rfl, _, _, rfl, .bool ?_⟩; simp [letterI, *])
theorem isName2_ok (s : ByteArray) : PureC prog 115 [.str s] (.bool (isName s)) := by
  refine PureC.of tab_ok mixed (fun _ => false) (fn := f115) rfl rfl rfl ?_
  repeat' ((conv => whnf); first | refine ⟨_, _, rfl, ?_⟩ | fail)
  refine RWp.loopS tab_ok mixed (σ := Nat) (fun i => SL [(0, some (.str s)), (6, some (.ptr 0 0))] 37 [(0, some (.siter s i))] 1) (fun i => i ≤ s.size ∧ goName 0 s.data.toList = goName i (s.data.toList.drop i)) (fun i => s.size - i) (fun _ => false) 0 ?_ ?_ ?_
  · simp
  · exact Ren.lists [(0, 0)] [] rfl rfl ⟨⟨_, rfl, .free rfl⟩, ⟨_, rfl, .ptr 0 0⟩, trivial⟩ ⟨⟨_, rfl, rfl, .siter s 0⟩, trivial⟩ rfl
  · intro i ⟨hi, hn⟩
    conv => whnf
    by_cases h3 : i < s.size
    · refine ⟨_, _, nx_on rfl h3, ?_⟩
      obtain ⟨c, hc, hd⟩ := get_ex (l := s.data.toList) (i := i) (by simpa using h3)
      rw [hd, goName] at hn
      by_cases hb : c.toNat < 128
      · rw [dec_low hc hb]
        repeat' ((conv => whnf); first | refine onO rfl ?_ | refine onC (isLetter_ok _) ?_ | refine onT ?_ | refine onF ?_ | refine onN (fun h => ?_) (fun h => ?_) | refine onNB (fun h => ?_) (fun h => ?_) | refine onP (fun h => ?_) (fun h => ?_) | refine ⟨_, rfl, ?_⟩ | fail)
        all_goals first
          | (refine ⟨.inr rfl, _, _, rfl, .bool ?_⟩
             have hko : okChar i c = false := by
               dsimp only at *
               simp only [okChar, letter, *]
               simp
               try omega
             simp [isName, hn, hko]; done)
          | (refine ⟨i + 1, by omega, ⟨by omega, ?_⟩, Ren.lists [(0, 0)] [] rfl rfl ⟨⟨_, rfl, .free rfl⟩, ⟨_, rfl, .ptr 0 0⟩, trivial⟩ ⟨⟨_, rfl, rfl, .siter s _⟩, trivial⟩ rfl⟩; simp_all [okChar, letter]; done)
      · have hq := dec_high hc (by omega)
        have hko : okChar i c = false := by
          have h1 : ¬ ((c.toNat : Int) ≤ 122) := by omega
          have h2 : ¬ ((c.toNat : Int) ≤ 90) := by omega
          have h3 : ¬ ((c.toNat : Int) ≤ 57) := by omega
          have h4 : ¬ ((c.toNat : Int) = 95) := by omega
          simp only [okChar, letter, letterI, h1, h2, h3, h4]; simp
        have hN : false = isName s := by simp [isName, hn, hko]
        generalize Utf8.decode s i = q at hq
        obtain ⟨q, w⟩ := q
        have hlet : letterI (q : Int) = false := by
          have h1 : ¬ ((q : Int) ≤ 122) := by simp only at hq; omega
          have h2 : ¬ ((q : Int) ≤ 90) := by simp only at hq; omega
          simp only [letterI, h1, h2]; simp
        repeat' ((conv => whnf); first | refine onO rfl ?_ | refine onC (isLetter_ok _) ?_ | refine onT ?_ | refine onF ?_ | refine onN (fun h => ?_) (fun h => ?_) | refine onNB (fun h => ?_) (fun h => ?_) | refine onP (fun h => ?_) (fun h => ?_) | refine ⟨_, rfl, ?_⟩ | fail)
        all_goals first
          | (refine ⟨.inr rfl, _, _, rfl, .bool hN⟩; done)
          | (exfalso; simp only at *; simp_all; done)
          | (exfalso; simp only at *; omega)
    · refine ⟨_, _, nx_end rfl (by omega), ?_⟩
      have hg : goName 0 s.data.toList = true := by rw [hn, List.drop_of_length_le (by simpa using h3)]; rfl
      have hz : s = empty ↔ s.size = 0 := ⟨fun h => by rw [h]; rfl, fun h => by
        have : s.data = #[] := Array.eq_empty_of_size_eq_zero h
        cases s; simp only at this; rw [this]⟩
      repeat' ((conv => whnf); first | refine onT ?_ | refine onF ?_ | refine onN (fun h => ?_) (fun h => ?_) | refine onP (fun h => ?_) (fun h => ?_) | refine ⟨_, rfl, ?_⟩ | fail)
      · refine ⟨.inr rfl, _, _, rfl, .bool ?_⟩
        have h0 : s.size ≠ 0 := fun e => h (hz.2 e)
        have h1 : 1 ≤ s.size := by omega
        have h2 : decide ((s.size : Int) ≤ 24) = decide (s.size ≤ 24) := decide_eq_decide.2 (by omega)
        simp [isName, hg, h1, h2]
      · refine ⟨.inr rfl, _, _, rfl, .bool ?_⟩
        have h0 : s.size = 0 := hz.1 h
        simp [isName, h0]
end Go.Rx.C7
