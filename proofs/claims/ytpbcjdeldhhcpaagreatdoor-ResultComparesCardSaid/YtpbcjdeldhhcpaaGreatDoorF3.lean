import Derived.Test.YtpbcjdeldhhcpaaGreatDoorF2
set_option linter.unusedVariables false
set_option linter.unusedSimpArgs false
set_option linter.unusedSectionVars false
set_option maxRecDepth 100000
set_option maxHeartbeats 4000000
noncomputable section
namespace Go.Rx.C7
open Go Go.Rx Go.Proofs.Tryz
theorem when_ok (b : Bool) (e : Int) : PureC prog 94 [.bool b, vint e] (vint (bif b then e else 0)) := by
  refine PureC.of tab_ok mixed (fun _ => false) (fn := f94) rfl rfl rfl ?_
  conv => whnf
  refine onB (fun h => ?_) (fun h => ?_)
  all_goals subst h; exact ⟨.inr rfl, _, _, rfl, .int rfl⟩
theorem isNaN_ok (a : Int) : PureC prog 205 [vint a] (.bool false) := by
  refine PureC.of tab_ok mixed (fun _ => false) (fn := f205) rfl rfl rfl ?_
  conv => whnf
  exact ⟨.inr rfl, _, _, rfl, .bool (by simp)⟩
theorem cmpI_ok (a b : Int) : PureC prog 154 [vint a, vint b] (vint (order a b)) := by
  refine PureC.of tab_ok mixed (fun _ => false) (fn := f154) rfl rfl rfl ?_
  repeat' ((conv => whnf); first | refine onO rfl ?_ | refine onC (isNaN_ok _) ?_ | refine onT ?_ | refine onF ?_ | refine onP (fun h => ?_) (fun h => ?_) | fail)
  all_goals (refine ⟨.inr rfl, _, _, rfl, .int ?_⟩; simp [order, *] <;> omega)
def states : List ByteArray := [⟨#[]⟩, ⟨#[100, 110, 115]⟩, ⟨#[100, 110, 102]⟩, ⟨#[100, 115, 113]⟩]
theorem states_ok : PureC prog 156 [] (vstrs states) := by
  refine PureC.of tab_ok mixed (fun _ => false) (fn := f156) rfl rfl rfl ?_
  repeat' ((conv => whnf); first | refine ⟨_, _, rfl, ?_⟩ | fail)
  exact ⟨.inr rfl, _, _, rfl, .frS 0 4 1 trivial rfl (CVs.free rfl), rfl⟩
def indexS : List ByteArray → ByteArray → Nat → Int
  | [], _, _ => -1
  | x :: l, s, i => if s = x then i else indexS l s (i + 1)
theorem index_ok (l : List ByteArray) (s : ByteArray) (hl : l.length < 1000000000) : PureC prog 155 [vstrs l, .str s] (vint (indexS l s 0)) := by
  refine PureC.of tab_ok mixed (fun _ => false) (fn := f155) rfl rfl (by simp [AV.frees, vstrs_free, AV.free]) ?_
  conv => whnf
  refine RWp.loopS tab_ok mixed (σ := Nat) (fun i => SL [(0, some (vstrs l)), (1, some (.str s)), (7, some (vint l.length)), (8, some (vint i))] 19 [] 0) (fun i => i ≤ l.length ∧ indexS l s 0 = indexS (l.drop i) s i) (fun i => l.length - i) (fun _ => false) 0 ?_ ?_ ?_
  · simp
  · exact Ren.lists [] [] rfl rfl ⟨⟨_, rfl, .free (vstrs_free l)⟩, ⟨_, rfl, .free rfl⟩, ⟨_, rfl, .free rfl⟩, ⟨_, rfl, .free rfl⟩, trivial⟩ trivial rfl
  · intro i ⟨hi, hn⟩
    conv => whnf
    refine onP (fun h3 => ?_) (fun h3 => ?_)
    · obtain ⟨r, hr, hd⟩ := get_ex (l := l) (i := i) (by omega)
      rw [hd, indexS] at hn
      repeat' ((conv => whnf); first | refine onP (fun h => ?_) (fun h => ?_) | refine ⟨_, ix_view rfl rfl (by omega) h3, ?_⟩ | refine ⟨_, ld_elt rfl hr, ?_⟩ | refine ⟨_, add_int (by omega), ?_⟩ | fail)
      · exact ⟨.inr rfl, _, _, rfl, .int (by rw [hn, if_pos h])⟩
      · refine ⟨i + 1, by omega, ⟨by omega, by rw [hn, if_neg h]⟩, Ren.lists [] [] rfl rfl ⟨⟨_, rfl, .free (vstrs_free l)⟩, ⟨_, rfl, .free rfl⟩, ⟨_, rfl, .free rfl⟩, ⟨_, rfl, .free rfl⟩, trivial⟩ trivial rfl⟩
    · refine ⟨.inr rfl, _, _, rfl, .int ?_⟩
      rw [hn, List.drop_of_length_le (by omega), indexS]
theorem contains_ok (l : List ByteArray) (s : ByteArray) (hl : l.length < 1000000000) : PureC prog 122 [vstrs l, .str s] (.bool (decide (0 ≤ indexS l s 0))) := by
  refine PureC.of tab_ok mixed (fun _ => false) (fn := f122) rfl rfl (by simp [AV.frees, vstrs_free, AV.free]) ?_
  repeat' ((conv => whnf); first | refine onO rfl ?_ | refine onC (index_ok _ _ hl) ?_ | fail)
  exact ⟨.inr rfl, _, _, rfl, .bool rfl⟩
def findI (p : Int → Bool) : List Int → Nat → Int
  | [], _ => -1
  | x :: l, i => bif p x then i else findI p l (i + 1)
theorem indexFunc_ok (l : List Int) (hl : l.length < 1000000000) (fid : FuncId) (a b : List AV) (p : Int → Bool) (hf : okF tab fid = true) (ha : AV.frees a = true) (hb : AV.frees b = true) (hp : ∀ x, PureC prog fid (a ++ ([vint x] ++ b)) (.bool (p x))) :
    PureC prog 181 [vints l, .func (.func fid) a b] (vint (findI p l 0)) := by
  have hfree : (AV.func (.func fid) a b).free = true := by simp [AV.free, ha, hb]
  refine PureC.of tab_ok mixed (fun _ => false) (fn := f181) rfl rfl (by simp [AV.frees, vints_free, hfree]) ?_
  conv => whnf
  refine RWp.loopS tab_ok mixed (σ := Nat) (fun i => SL [(0, some (vints l)), (1, some (.func (.func fid) a b)), (7, some (vint l.length)), (8, some (vint i))] 19 [] 0) (fun i => i ≤ l.length ∧ findI p l 0 = findI p (l.drop i) i) (fun i => l.length - i) (fun _ => false) 0 ?_ ?_ ?_
  · simp
  · exact Ren.lists [] [] rfl rfl ⟨⟨_, rfl, .free (vints_free l)⟩, ⟨_, rfl, .free hfree⟩, ⟨_, rfl, .free rfl⟩, ⟨_, rfl, .free rfl⟩, trivial⟩ trivial rfl
  · intro i ⟨hi, hn⟩
    conv => whnf
    refine onP (fun h3 => ?_) (fun h3 => ?_)
    · obtain ⟨r, hr, hd⟩ := get_ex (l := l) (i := i) (by omega)
      rw [hd, findI] at hn
      repeat' ((conv => whnf); first | refine onO hf ?_ | refine onC (hp r) ?_ | refine onB (fun h => ?_) (fun h => ?_) | refine ⟨_, ix_view rfl rfl (by omega) h3, ?_⟩ | refine ⟨_, ld_elt rfl hr, ?_⟩ | refine ⟨_, add_int (by omega), ?_⟩ | fail)
      · exact ⟨.inr rfl, _, _, rfl, .int (by rw [hn, h]; rfl)⟩
      · refine ⟨i + 1, by omega, ⟨by omega, by rw [hn, h]; rfl⟩, Ren.lists [] [] rfl rfl ⟨⟨_, rfl, .free (vints_free l)⟩, ⟨_, rfl, .free hfree⟩, ⟨_, rfl, .free rfl⟩, ⟨_, rfl, .free rfl⟩, trivial⟩ trivial rfl⟩
    · refine ⟨.inr rfl, _, _, rfl, .int ?_⟩
      rw [hn, List.drop_of_length_le (by omega), findI]
end Go.Rx.C7
