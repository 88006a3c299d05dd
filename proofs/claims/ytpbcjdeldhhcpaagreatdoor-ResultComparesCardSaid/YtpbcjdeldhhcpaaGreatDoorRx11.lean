import Derived.Test.YtpbcjdeldhhcpaaGreatDoorRx10
import Derived.RangeFuncLeaves
set_option linter.unusedVariables false
set_option linter.unusedSimpArgs false
set_option linter.unusedSectionVars false
noncomputable section
namespace Go.Rx
open Go

/-! ### 25. A region in the order of the text -/
inductive DR (ρ : Emb) : List Nat → List Deferred → Prop
  | nil : DR ρ [] []
  | cons {id : Nat} {e : E} {ids : List Nat} {ds : List Deferred} (h : ρ id = some e) (t : DR ρ ids ds) : DR ρ (id :: ids) ({ target := .collected e.blk, args := #[] } :: ds)
theorem DR.mono {ρ ρ' : Emb} (hle : ρ.le ρ') : ∀ {a : List Nat} {b : List Deferred}, DR ρ a b → DR ρ' a b
  | _, _, .nil => .nil
  | _, _, .cons h t => .cons (hle _ _ h) (DR.mono hle t)

structure ActR (ρ : Emb) (s : St) (a : Act) : Prop where
  tm : TR ρ s.tm s.nt a.tmps
  df : DR ρ s.df a.defers
theorem ActR.mono {ρ ρ' : Emb} {s : St} {a : Act} (h : ActR ρ s a) (hle : ρ.le ρ') : ActR ρ' s a := ⟨h.tm.mono hle, h.df.mono hle⟩

def CallOK (P : Program) (call : CallF) : Prop :=
  ∀ f args h v h', call f args h = some (v, h') → ∀ N0 ρ w vs, Sim N0 ρ h.get w → VRs ρ args vs → Fresh ρ h.nx h'.nx →
    CallsIn Fence.wide 0 P f vs.toArray w (fun e w' => ∃ ρ' x, e = .returned x ∧ VR ρ' v x ∧ Post N0 ρ h.get h.nx w ρ' h'.get h'.nx w')
def RoundOK (P : Program) (round : RoundF) : Prop :=
  ∀ id args h v h', round id args h = some (v, h') → ∀ N0 ρ w vs e, Sim N0 ρ h.get w → ρ id = some e → VRs ρ args vs → Fresh ρ h.nx h'.nx →
    ∃ f tmps assign body, (Instr.yield e.blk vs.toArray).run P w = .ok (.round e.blk f tmps assign body) w ∧
      RoundIn Fence.wide 0 P e.blk f tmps assign body w (fun e w' => ∃ ρ' x, e = .returned x ∧ VR ρ' v x ∧ Post N0 ρ h.get h.nx w ρ' h'.get h'.nx w')

theorem TR.put {ρ : Emb} {tm : T AV} {nt : Nat} {ts : Array Value} (h : TR ρ tm nt ts) {d : Nat} {v : AV} {x : Value} (hd : d < nt) (hv : VR ρ v x) : TR ρ (tm.set d (some v)) nt (ts.setIfInBounds d x) := by
  refine ⟨by rw [Array.size_setIfInBounds]; exact h.1, fun i u hu => ?_⟩
  rw [T.get_set] at hu
  have hds : d < ts.size := by rw [h.1]; exact hd
  by_cases hi : i = d
  · subst hi
    rw [if_pos rfl] at hu
    cases hu
    rw [Array.getD_eq_getD_getElem?, Array.getElem?_setIfInBounds_self_of_lt hds]
    exact hv
  · rw [if_neg hi] at hu
    have := h.2 i u hu
    rw [Array.getD_eq_getD_getElem?] at this ⊢
    rw [Array.getElem?_setIfInBounds_ne (by omega)]
    exact this

theorem St.put_spec {s s' : St} {d : Option Tmp} {v : AV} {h : H} (hp : s.put d v h = some s') : s'.h = h ∧ s'.df = s.df ∧ s'.nt = s.nt ∧ match d with
    | some d => d < s.nt ∧ s'.tm = s.tm.set d (some v)
    | none => s'.tm = s.tm := by
  unfold St.put at hp
  cases d with
  | none =>
    simp only [Option.some.injEq] at hp
    subst hp
    exact ⟨rfl, rfl, rfl, rfl⟩
  | some d =>
    simp only at hp
    cases q2 : Nat.ble s.nt d with
    | true => simp [q2] at hp
    | false =>
      simp only [q2, cond_false, Option.some.injEq] at hp
      subst hp
      refine ⟨rfl, rfl, rfl, ?_, rfl⟩
      rcases Nat.lt_or_ge d s.nt with h1 | h1
      · exact h1
      · rw [Nat.ble_eq_true_of_le h1] at q2; cases q2
theorem ActR.put {ρ : Emb} {s s' : St} {a : Act} {d : Option Tmp} {v : AV} {x : Value} {h : H} (ha : ActR ρ s a) (hv : VR ρ v x) (hp : s.put d v h = some s') : ActR ρ s' (a.put d x) := by
  obtain ⟨h1, h2, h3, h4⟩ := St.put_spec hp
  cases d with
  | none => exact ⟨by simp only [Act.put]; rw [h4, h3]; exact ha.tm, by simp only [Act.put]; rw [h2]; exact ha.df⟩
  | some d => exact ⟨by simp only [Act.put]; rw [h4.2, h3]; exact ha.tm.put h4.1 hv, by simp only [Act.put]; rw [h2]; exact ha.df⟩

theorem wantedA_ok {ρ : Emb} {ops : Array Oper} {tm : T AV} {nt : Nat} {ts : Array Value} {o : Oper} {b : Bool} (h : TR ρ tm nt ts) (hw : wantedA ops.toList tm o = some b) : Region.wanted o (yielded ops ts) = b := by
  unfold wantedA at hw
  unfold Region.wanted
  split at hw
  · rename_i hg
    simp only [Option.some.injEq] at hw
    rw [hg]; exact hw
  · rename_i j want hg
    rw [hg]
    simp only
    split at hw
    · rename_i oj hj
      split at hw
      · rename_i d hd
        have hj' : ops[j]? = some oj := by simpa using hj
        have hy : yielded ops ts j = match ts[d]? with
          | some (.bool b) => some b
          | _ => none := by
          simp only [yielded, hj', Option.bind_some, hd]
          cases ts[d]? with
          | none => rfl
          | some x => cases x <;> rfl
        rw [hy]
        have key : ∀ v, tm.get d = some v → VR ρ v (ts.getD d undef) := fun v hv => h.2 d v hv
        split at hw
        · rename_i b' hb
          simp only [Option.some.injEq] at hw
          have hv := key _ hb
          rw [Array.getD_eq_getD_getElem?] at hv
          cases ht : ts[d]? with
          | none =>
            rw [ht] at hv
            cases hv
          | some x =>
            rw [ht] at hv
            simp only [Option.getD_some] at hv
            cases hv
            simp only [Option.some_beq_some]
            exact hw
        · rename_i vs hb
          simp only [Option.some.injEq] at hw
          have hv := key _ hb
          rw [Array.getD_eq_getD_getElem?] at hv
          cases ht : ts[d]? with
          | none => subst hw; rfl
          | some x =>
            rw [ht] at hv
            simp only [Option.getD_some] at hv
            cases hv
            subst hw; rfl
        · simp at hw
      · simp at hw
    · simp at hw

theorem undef_rel (ρ : Emb) : VR ρ (.tuple []) undef := .tuple (vs := []) .nil

/-- One operation of a region, whatever comes behind it. -/
theorem evStep_ok {D : Tab} {P : Program} (hD : D.Ok2 P) {call : KCall} {round : KRound} (hcall : ∀ d, CallOK P (call d)) (hround : ∀ d, RoundOK P (round d)) {F : Fence} (hF : F = Fence.wide ∨ ∃ l, F = Fence.wide.inRound l) {N0 : Nat} {ρ : Emb} {s s' : St} {a : Act} {w : World} {ops : Array Oper} {o : Oper}
    (sim : Sim N0 ρ s.h.get w) (ha : ActR ρ s a) (he : evStep P D call round ops.toList o s = some s') (hf : Fresh ρ s.h.nx s'.h.nx) (K : Act → World → Prop) (Q : Exit → Act → World → Prop)
    (hK : ∀ ρ' a' w', ActR ρ' s' a' → Post N0 ρ s.h.get s.h.nx w ρ' s'.h.get s'.h.nx w' → K a' w') :
    if Region.wanted o (yielded ops a.tmps) then o.wpIn F 0 P a w K Q else (∀ f, o.about P w a.eval = some f → F.fn f) ∧ K (a.put o.dst undef) w := by
  have hfn : ∀ f, F.fn f := by rcases hF with rfl | ⟨l, rfl⟩ <;> intro f <;> trivial
  have hdep : F.depth = none := by rcases hF with rfl | ⟨l, rfl⟩ <;> rfl
  unfold evStep at he
  split at he
  case h_2 => simp at he
  rename_i v h' hstep
  obtain ⟨h1, h2, h3, h5⟩ := St.put_spec he
  rw [h1] at hf
  unfold evStep1 at hstep
  split at hstep
  · rename_i hw
    rw [wantedA_ok ha.tm hw, if_pos rfl]
    refine ⟨fun f _ => hfn f, ?_⟩
    split at hstep
    · rename_i v1 h1' hv
      simp only [Option.some.injEq, Prod.mk.injEq] at hstep
      obtain ⟨rfl, rfl⟩ := hstep
      obtain ⟨ρ', x, w', k1, k2, k3⟩ := evOp_ok hD sim ha.tm hv hf
      have hnd : o.semAt F.round a.eval = execOp a.eval o := Oper.semAt_eq _ _ _ (fun c hc => by simp [evOp, hc] at hv)
      rw [hnd, k1]
      exact hK ρ' _ w' ((ha.mono k3.ext).put k2 he) (by rw [h1]; exact k3)
    · rename_i h1' hv
      simp only [Option.some.injEq, Prod.mk.injEq] at hstep
      obtain ⟨rfl, rfl⟩ := hstep
      obtain ⟨w', k1, k3⟩ := evOp_ok hD sim ha.tm hv
      have hnd : o.semAt F.round a.eval = execOp a.eval o := Oper.semAt_eq _ _ _ (fun c hc => by simp [evOp, hc] at hv)
      rw [hnd, k1]
      exact hK ρ _ w' ((ha.mono k3.ext).put (undef_rel ρ) he) (by rw [h1]; exact k3)
    · rename_i f args hv
      obtain ⟨vs, k1, k2⟩ := evOp_ok hD sim ha.tm hv
      have hnd : o.semAt F.round a.eval = execOp a.eval o := Oper.semAt_eq _ _ _ (fun c hc => by simp [evOp, hc] at hv)
      rw [hnd, k1]
      refine ⟨fun hd => by rw [hdep] at hd; simp at hd, ?_⟩
      have hci := hcall _ f args s.h v h' hstep N0 ρ w vs sim k2 hf
      have hci' : CallsIn F (0 - 1) P f vs.toArray w (fun e w' => ∃ ρ' x, e = .returned x ∧ VR ρ' v x ∧ Post N0 ρ s.h.get s.h.nx w ρ' h'.get h'.nx w') := by
        rcases hF with rfl | ⟨l, rfl⟩
        · exact hci
        · exact hci
      refine CallsIn.mono hci' ?_
      rintro e w' ⟨ρ', x, rfl, m1, m2⟩
      exact hK ρ' _ w' ((ha.mono m2.ext).put m1 he) (by rw [h1]; exact m2)
    · rename_i id args hv
      obtain ⟨e, vs, k1, k2, k3⟩ := evOp_ok hD sim ha.tm hv
      obtain ⟨f, tmps, asg, body, m1, m2⟩ := hround _ id args s.h v h' hstep N0 ρ w vs e sim k1 k2 hf
      have hnd : o.semAt F.round a.eval = execOp a.eval o := Oper.semAt_eq _ _ _ (fun c hc => by simp [evOp, hc] at hv)
      rw [hnd, k3, m1]
      refine ⟨fun hd => by rw [hdep] at hd; simp at hd, ?_⟩
      have m2' : RoundIn F (0 - 1) P e.blk f tmps asg body w (fun e w' => ∃ ρ' x, e = .returned x ∧ VR ρ' v x ∧ Post N0 ρ s.h.get s.h.nx w ρ' h'.get h'.nx w') := by
        rcases hF with rfl | ⟨l, rfl⟩
        · exact m2
        · exact m2
      refine RoundIn.mono m2' ?_
      rintro e w' ⟨ρ', x, rfl, q1, q2⟩
      exact hK ρ' _ w' ((ha.mono q2.ext).put q1 he) (by rw [h1]; exact q2)
    · simp at hstep
  · rename_i hw
    simp only [Option.some.injEq, Prod.mk.injEq] at hstep
    obtain ⟨rfl, rfl⟩ := hstep
    rw [wantedA_ok ha.tm hw, if_neg (by simp)]
    exact ⟨fun f _ => hfn f, hK ρ _ w (ha.put (undef_rel ρ) he) (by rw [h1]; exact .refl sim)⟩
  · simp at hstep

theorem evOps_ok {D : Tab} {P : Program} (hD : D.Ok2 P) {call : KCall} {round : KRound} (hcall : ∀ d, CallOK P (call d)) (hround : ∀ d, RoundOK P (round d)) {F : Fence} (hF : F = Fence.wide ∨ ∃ l, F = Fence.wide.inRound l) {N0 : Nat} {ops : Array Oper} (Q : Exit → Act → World → Prop) :
    ∀ (l : List Oper) (k : Nat), ops.toList.drop k = l → ∀ {ρ : Emb} {s s' : St} {a : Act} {w : World}, Sim N0 ρ s.h.get w → ActR ρ s a → evOps P D call round ops.toList l s = some s' → Fresh ρ s.h.nx s'.h.nx →
      (∀ ρ' a' w', ActR ρ' s' a' → Post N0 ρ s.h.get s.h.nx w ρ' s'.h.get s'.h.nx w' → Q .normal a' w') → wpOpsIn F 0 P ops Q (List.range' k l.length) a w
  | [], k, _, ρ, s, s', a, w, sim, ha, he, hf, hQ => by
    simp only [evOps, Option.some.injEq] at he
    subst he
    exact hQ ρ a w ha (.refl sim)
  | o :: l, k, hk, ρ, s, s', a, w, sim, ha, he, hf, hQ => by
    rw [evOps] at he
    split at he
    case h_2 => simp at he
    rename_i s1 h1
    have hlt : k < ops.toList.length := by
      rcases Nat.lt_or_ge k ops.toList.length with h | h
      · exact h
      · rw [List.drop_eq_nil_of_le h] at hk; cases hk
    have hok : ops[k]? = some o := by
      have := List.drop_eq_getElem_cons hlt
      rw [hk] at this
      injection this with h1 h2
      rw [← Array.getElem?_toList, List.getElem?_eq_getElem hlt, h1]
    have hrest : ops.toList.drop (k + 1) = l := by rw [← List.drop_drop, hk]; rfl
    have hf1 : Fresh ρ s.h.nx s1.h.nx := fun id a => hf id a
    rw [List.length_cons, List.range'_succ, wpOpsIn]
    simp only [hok]
    have := evStep_ok hD hcall hround hF (ops := ops) sim ha h1 hf1 (wpOpsIn F 0 P ops Q (List.range' (k + 1) l.length)) Q (fun ρ' a' w' ha' hp => by
      refine evOps_ok hD hcall hround hF Q l (k + 1) hrest hp.sim ha' he (hp.fresh hf) fun ρ'' a'' w'' ha'' hp'' => hQ ρ'' a'' w'' ha'' (hp.trans hp''))
    exact this
end Go.Rx
