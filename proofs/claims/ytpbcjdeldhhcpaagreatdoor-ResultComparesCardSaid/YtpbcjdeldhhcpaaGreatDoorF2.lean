import Derived.Test.YtpbcjdeldhhcpaaGreatDoorF1
set_option linter.unusedVariables false
set_option linter.unusedSimpArgs false
set_option linter.unusedSectionVars false
set_option maxRecDepth 100000
set_option maxHeartbeats 4000000
noncomputable section
namespace Go.Rx.C7
open Go Go.Rx Go.Proofs.Tryz
structure Res where
  name : ByteArray
  st : ByteArray
  vals : List Int
def encR (r : Res) : List AV := [.str r.name, .str r.st, vints r.vals]
def vres (r : Res) : AV := .agg (encR r)
def vress (l : List Res) : AV := vlist 3 encR l
theorem encR_len (r : Res) : (encR r).length = 3 := rfl
theorem encR_free (r : Res) : AV.frees (encR r) = true := by simp [encR, AV.frees, AV.free, vints_free]
theorem vress_free (l : List Res) : (vress l).free = true := vlist_free encR_free l
def shortR (r : Res) : Bool := !decide (40 < (r.name.size : Int)) && !decide (40 < (r.st.size : Int)) && !decide (10 < (r.vals.length : Int))
def short (l : List Res) (n : Int) : Bool := !((decide (n < l.length) && decide ((l.length : Int) ≤ 160)) || decide (162 < (l.length : Int))) && l.all shortR
theorem short_ok (l : List Res) (n : Int) : PureC prog 18 [vress l, vint n] (.bool (short l n)) := by
  refine PureC.of tab_ok mixed (fun _ => false) (fn := f18) rfl rfl (by simp [AV.frees, vress_free, AV.free, vint]) ?_
  repeat' ((conv => whnf); first | refine onT ?_ | refine onF ?_ | refine onP (fun h => ?_) (fun h => ?_) | refine onN (fun h => ?_) (fun h => ?_) | refine ⟨_, rfl, ?_⟩ | refine ⟨_, _, rfl, ?_⟩ | fail)
  all_goals first
    | (refine ⟨.inr rfl, _, _, rfl, .bool ?_⟩; simp_all [short]; done)
    | skip
  all_goals
    have hs : l.length ≤ 162 := by omega
    have hq : short l n = l.all shortR := by simp_all [short]
    rw [hq]
    refine RWp.loopS tab_ok mixed (σ := Nat) (fun i => SL [(0, some (vress l)), (5, some (.int .i64 i))] 51 [] 0) (fun i => i ≤ l.length ∧ l.all shortR = (l.drop i).all shortR) (fun i => l.length - i) (fun _ => false) 0 ?_ ?_ ?_
    · simp
    · exact Ren.lists [] [] rfl rfl ⟨⟨_, rfl, .free (vress_free l)⟩, ⟨_, rfl, .free rfl⟩, trivial⟩ trivial rfl
    · intro i ⟨hi, hn⟩
      conv => whnf
      refine onP (fun h3 => ?_) (fun h3 => ?_)
      · obtain ⟨r, hr, hd⟩ := get_ex (l := l) (i := i) (by omega)
        rw [hd, List.all_cons] at hn
        repeat' ((conv => whnf); first | refine onT ?_ | refine onF ?_ | refine onP (fun h => ?_) (fun h => ?_) | refine onN (fun h => ?_) (fun h => ?_) | refine ⟨_, ix_view rfl rfl (by omega) h3, ?_⟩ | refine ⟨_, ld_fld rfl encR_len hr rfl, ?_⟩ | refine ⟨_, rfl, ?_⟩ | refine ⟨_, _, rfl, ?_⟩  | refine ⟨_, add_int (by omega), ?_⟩ | fail)
        all_goals first
          | (refine ⟨.inr rfl, _, _, rfl, .bool ?_⟩; simp_all [shortR]; done)
          | (refine ⟨i + 1, ?_, ⟨?_, ?_⟩, Ren.lists [] [] rfl rfl ⟨⟨_, rfl, .free (vress_free l)⟩, ⟨_, rfl, .free rfl⟩, trivial⟩ trivial rfl⟩
             · omega
             · omega
             · simp_all [shortR])
      · refine ⟨.inr rfl, _, _, rfl, .bool ?_⟩
        rw [hn, List.drop_of_length_le (by omega), List.all_nil]
end Go.Rx.C7
