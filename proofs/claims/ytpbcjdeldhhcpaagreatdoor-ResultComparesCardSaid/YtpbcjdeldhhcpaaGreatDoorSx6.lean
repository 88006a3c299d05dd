import Derived.Test.YtpbcjdeldhhcpaaGreatDoorSx5
set_option linter.unusedVariables false
set_option linter.unusedSimpArgs false
set_option linter.unusedSectionVars false
set_option linter.unusedVariables false
noncomputable section
namespace Go.Rx
open Go

/-! ### S8. The tree is sound: code -/
theorem evTr_ops {P : Program} {D : Tab} {call : KCall} {round : KRound} {all : List Oper} : ∀ {os : List Oper} {s : St} {tr : List (T AV × AV)} {hs : List H} {sf : St}, evTr P D call round all os s = some (tr, hs, sf) → evOps P D call round all os s = some sf
  | [], s, tr, hs, sf, h => by simp only [evTr, Option.some.injEq, Prod.mk.injEq] at h; rw [evOps, h.2.2]
  | o :: os, s, tr, hs, sf, h => by
    rw [evTr] at h
    split at h
    · rename_i v h' he
      split at h
      · rename_i s' hp
        split at h
        · rename_i tr1 hs1 sf1 ht
          simp only [Option.some.injEq, Prod.mk.injEq] at h
          rw [evOps, evStep, he]
          simp only [hp]
          rw [← h.2.2]
          exact evTr_ops ht
        · cases h
      · cases h
    · cases h
theorem rdOne_spec {P : Program} {D : Tab} {all : List Oper} {o : Oper} {tm : T AV} {v : AV} {lo hi : Nat} : ∀ {hs : List H} {k : Nat}, rdOne P D all o tm v lo hi k hs → ∀ (m : Nat) (h : H), hs[m]? = some h → lo ≤ k + m → k + m ≤ hi → rdAt P D all o tm v h
  | [], k, _, m, h, hm, _, _ => by simp at hm
  | h0 :: hs, k, ⟨ha, hb⟩, m, h, hm, h1, h2 => by
    cases m with
    | zero =>
      simp only [List.getElem?_cons_zero, Option.some.injEq] at hm
      subst hm
      have e1 : Nat.blt k lo = false := by
        cases hx : Nat.blt k lo with
        | false => rfl
        | true => have := Nat.le_of_ble_eq_true hx; omega
      have e2 : Nat.blt hi k = false := by
        cases hx : Nat.blt hi k with
        | false => rfl
        | true => have := Nat.le_of_ble_eq_true hx; omega
      rw [e1, e2] at ha
      exact ha
    | succ m => exact rdOne_spec hb m h (by simpa using hm) (by omega) (by omega)
theorem rdAll_spec {P : Program} {D : Tab} {all : List Oper} {hs : List H} : ∀ {os : List Oper} {k : Nat} {tr : List (T AV × AV)}, all.drop k = os → rdAll P D all hs k os tr → ∀ i o tm v, k ≤ i → all[i]? = some o → tr[i - k]? = some (tm, v) → kdOf o = .read → indep (evalO tm) o = true ∨
    rdOne P D all o tm v (countC (fun j => (((masks all)[i]?).getD 0).testBit j) 0 all) (countC (fun j => !((((masks all)[j]?).getD 0).testBit i)) 0 all) 0 hs
  | [], k, tr, hk, _, i, o, tm, v, hki, ho, _, _ => by
    have : all.length ≤ k := by
      rcases Nat.lt_or_ge k all.length with h1 | h1
      · rw [List.drop_eq_getElem_cons h1] at hk; cases hk
      · exact h1
    rw [List.getElem?_eq_none (by omega)] at ho; cases ho
  | o' :: os, k, [], hk, _, i, o, tm, v, hki, ho, ht, _ => by simp at ht
  | o' :: os, k, (tm', v') :: tr, hk, ⟨h1, h2⟩, i, o, tm, v, hki, ho, ht, hkd => by
    have hlt : k < all.length := by
      rcases Nat.lt_or_ge k all.length with h1 | h1
      · exact h1
      · rw [List.drop_eq_nil_of_le h1] at hk; cases hk
    have hc := List.drop_eq_getElem_cons hlt
    rw [hk] at hc
    injection hc with hc1 hc2
    by_cases hik : i = k
    · subst hik
      rw [List.getElem?_eq_getElem hlt, ← hc1] at ho
      cases ho
      rw [Nat.sub_self] at ht
      simp only [List.getElem?_cons_zero, Option.some.injEq, Prod.mk.injEq] at ht
      obtain ⟨rfl, rfl⟩ := ht
      rw [hkd] at h1
      simp only at h1
      cases hi : indep (evalO tm') o' with
      | true => exact .inl rfl
      | false => rw [hi] at h1; exact .inr h1
    · refine rdAll_spec (k := k + 1) hc2.symm h2 i o tm v (by omega) ho ?_ hkd
      rw [show i - k = (i - (k + 1)) + 1 by omega] at ht
      simpa using ht
/-- What is read is the same at each stage. -/
def rdHs (P : Program) (D : Tab) (all : List Oper) (o : Oper) (tm : T AV) (v : AV) : List H → Prop
  | [] => True
  | h :: hs => rdAt P D all o tm v h ∧ rdHs P D all o tm v hs
def rdAllA (P : Program) (D : Tab) (all : List Oper) (hs : List H) : List Oper → List (T AV × AV) → Prop
  | o :: os, (tm, v) :: tr => (match kdOf o with
      | .read => bif indep (evalO tm) o then True else rdHs P D all o tm v hs
      | _ => True) ∧ rdAllA P D all hs os tr
  | _, _ => True
theorem rdHs_one {P : Program} {D : Tab} {all : List Oper} {o : Oper} {tm : T AV} {v : AV} {lo hi : Nat} : ∀ {hs : List H} (k : Nat), rdHs P D all o tm v hs → rdOne P D all o tm v lo hi k hs
  | [], _, _ => trivial
  | h :: hs, k, ⟨h1, h2⟩ => ⟨by
      cases (bif Nat.blt k lo then true else Nat.blt hi k) with
      | true => trivial
      | false => exact h1, rdHs_one (k + 1) h2⟩
theorem rdAllA_ok {P : Program} {D : Tab} {all : List Oper} {hs : List H} : ∀ {os : List Oper} {tr : List (T AV × AV)} (i : Nat), rdAllA P D all hs os tr → rdAll P D all hs i os tr
  | [], _, _, _ => by unfold rdAll; trivial
  | _ :: _, [], _, _ => by unfold rdAll; trivial
  | o :: os, (tm, v) :: tr, i, ⟨h1, h2⟩ => by
    refine ⟨?_, rdAllA_ok (i + 1) h2⟩
    cases hk : kdOf o with
    | pure => trivial
    | chain => trivial
    | read =>
      rw [hk] at h1
      simp only at h1 ⊢
      cases hi : indep (evalO tm) o with
      | true => trivial
      | false => rw [hi] at h1; exact rdHs_one 0 h1
theorem indep_spec {P : Program} {D : Tab} {ρ : Operand → AV} {o : Oper} (hi : indep ρ o = true) (h h2 : H) : evP P D ρ o h = evP P D ρ o h2 := by
  unfold indep at hi
  split at hi
  · rename_i t a hop
    split at hi
    · rename_i vals off hv
      unfold evP
      simp only [hop, evLoad, hv]
    · cases hi
  · rename_i t x lo hi' hop
    unfold evP
    split at hi
    · rename_i hv; simp only [hop, evSlice, hv]
    · rename_i hv; simp only [hop, evSlice, hv]
    · rename_i hv; simp only [hop, evSlice, hv]
    · cases hi
  · rename_i c hop
    split at hi
    · rename_i hcal
      unfold evP
      split at hi
      · rename_i hv
        simp only [hop, hcal, hv, evBuiltin, evLen]
        cases c.argTypes[0]? with
        | none => rfl
        | some t => simp only; cases D.und t with
          | none => rfl
          | some d => cases d <;> rfl
      · rename_i hv
        simp only [hop, hcal, hv, evBuiltin, evLen]
        cases (evPure P (Builtin.len_ c.argTypes o.type #[Value.string _])) <;> rfl
      · rename_i hv
        simp only [hop, hcal, hv, evBuiltin, evLen]
        cases c.argTypes[0]? with
        | none => rfl
        | some t => simp only; cases D.und t with
          | none => rfl
          | some d => cases d <;> rfl
      · cases hi
    · cases hi
  · cases hi
theorem rdAt_step {P : Program} {D : Tab} {call : KCall} {round : KRound} {all : List Oper} {o : Oper} {tm tm0 : T AV} {v : AV} {h : H} (hk : kdOf o = .read) (he : EqT tm tm0) (hr : rdAt P D all o tm v h) : ∃ h', evStep1 P D call round all o tm0 h = some (v, h') := by
  have hc : isChain o = false := by unfold isChain; rw [hk]
  rw [evStep1_congr (tm' := tm) fun t _ => (he t).symm, evStep1_float hc]
  unfold rdAt at hr
  split at hr
  · rename_i hw; rw [hw]; simp only [hr]; exact ⟨_, rfl⟩
  · rename_i hw; rw [hw, hr]; exact ⟨_, rfl⟩
  · exact hr.elim

section
variable {P : Program} {D : Tab} {pin : Nat} {rd : Option Nat} {K : Ex → St → Prop} (hD : D.Ok2 P) (hm : P.follows .mixedOrders = true)
include hD hm
theorem sReg_ok {id : Nat} {ops : Array Oper} {draw : Bool} {s : St} {k : St → Tr} (hh : (sReg P D ops draw s k).holds P pin rd K) : RWp P pin rd (.region id ops draw) s fun e s' => e = .normal ∧ (k s').holds P pin rd K := by
  constructor
  intro N0 ρ a w F hmd sim ha hf Q hQ
  have fin : ∀ {sf sf0 : St}, EqS sf sf0 → (k sf).holds P pin rd K → ∀ ρ' a' w', ActR ρ' sf0 a' → Post N0 ρ s.h.get s.h.nx w ρ' sf0.h.get sf0.h.nx w' → Q .normal a' w' := fun {sf sf0} he hk ρ' a' w' ha' hp => by
    refine hQ .normal sf ρ' a' w' ⟨rfl, hk⟩ (hmd.mono hp.ext) ⟨⟨by rw [he.nt]; exact ha'.tm.1, fun i v hv => ha'.tm.2 i v (by rw [← he.tm]; exact hv)⟩, by rw [he.df]; exact ha'.df⟩ ?_ ?_
    · rw [he.h]; exact hp.fresh (m := 0) hf
    · rw [he.h]; exact hp.rp
  unfold sReg at hh
  cases draw with
  | false =>
    simp only [cond_false, sOs_eq] at hh
    obtain ⟨call, tr, tr0, hs, sf, sf0, k1, k2, k3, k4, k5⟩ := sTr_ok hD.toOk (EqS.refl s) hh
    refine wpIn_region ?_
    have := evOps_ok hD (call := call) (round := noRound) k1 noRound_ok hmd.or (ops := ops) Q ops.toList 0 rfl sim ha (evTr_ops k2) (fun i hi => hf i hi) (fin k4 k5)
    rw [List.range_eq_range']
    simpa using this
  | true =>
    simp only [cond_true] at hh
    obtain ⟨hst, hh⟩ := hh
    obtain ⟨call, tr, tr0, hs, sf, sf0, k1, k2, k3, k4, k5⟩ := sTr_ok hD.toOk (EqS.refl s) hh
    have hend : (k sf).holds P pin rd K ∧ ReadsP P D call noRound ops.toList (s.h :: hs) tr0 := by
      cases hs with
      | nil =>
        refine ⟨k5, fun i o tm v ho ht hk m h hm h1 h2 => ?_⟩
        cases m with
        | succ m => simp at hm
        | zero =>
          simp only [List.getElem?_cons_zero, Option.some.injEq] at hm
          subst hm
          obtain ⟨σ, u, t⟩ := evTr_spec ops.toList 0 rfl (Nat.zero_le _) k2
          have hil : i < ops.toList.length := (List.getElem?_eq_some_iff.1 ho).1
          obtain ⟨o', h', q1, q2, q3, q4⟩ := t.step i (Nat.zero_le _) hil
          rw [ho] at q1; cases q1
          rw [Nat.sub_zero, ht] at q4
          simp only [Option.some.injEq, Prod.mk.injEq] at q4
          obtain ⟨rfl, rfl⟩ := q4
          have hst := t.stage i (Nat.zero_le _) (Nat.le_of_lt hil)
          have : (σ i).h = s.h := by
            generalize cntU ops.toList (fun _ => true) i - cntU ops.toList (fun _ => true) 0 = z at hst
            cases z with
            | zero => simpa using hst.symm
            | succ z => simp at hst
          rw [← this]
          exact ⟨h', q2⟩
      | cons h0 hs =>
        obtain ⟨hr, k5⟩ := k5
        refine ⟨k5, fun i o tm v ho ht hk m h hm h1 h2 => ?_⟩
        obtain ⟨tm', ht', he⟩ := k3 i tm v ht
        rcases rdAll_spec rfl hr i o tm' v (Nat.zero_le _) ho ht' hk with hin | this
        · obtain ⟨σ, u, t⟩ := evTr_spec ops.toList 0 rfl (Nat.zero_le _) k2
          have hil : i < ops.toList.length := (List.getElem?_eq_some_iff.1 ho).1
          obtain ⟨o', h', q1, q2, q3, q4⟩ := t.step i (Nat.zero_le _) hil
          rw [ho] at q1; cases q1
          rw [Nat.sub_zero, ht] at q4
          simp only [Option.some.injEq, Prod.mk.injEq] at q4
          obtain ⟨rfl, rfl⟩ := q4
          have hc : isChain o = false := by unfold isChain; rw [hk]
          have hcg : ∀ x : H, evStep1 P D call noRound ops.toList o (σ i).tm x = evStep1 P D call noRound ops.toList o tm' x := fun x => evStep1_congr fun t _ => (he t).symm
          rw [hcg, evStep1_float hc] at q2 ⊢
          rw [indep_spec hin h (σ i).h]
          split at q2
          · rename_i hw
            split at q2
            · rename_i v' hv'
              simp only [Option.some.injEq, Prod.mk.injEq] at q2
              exact ⟨h, by rw [q2.1]⟩
            · cases q2
          · rename_i hw
            simp only [Option.some.injEq, Prod.mk.injEq] at q2
            exact ⟨h, by rw [q2.1]⟩
          · cases q2
        · exact rdAt_step hk he (rdOne_spec this m h hm (by omega) (by omega))
    exact draw_region hD hm k1 noRound_ok hmd.or hst k2 hend.2 sim ha (fun i hi => hf i hi) Q (fin k4 hend.1)

theorem sCode_ok (brk : Nat → Bool) : ∀ {c : Code} {s : St} {k : Ex → St → Tr}, (sCode P D rd brk c s k).holds P pin rd K → RWp P pin rd c s fun e s' => (k e s').holds P pin rd K
  | .skip, s, k, hh => .skip hh
  | .region id ops draw, s, k, hh => by
    rw [sCode] at hh
    cases hb : brk id with
    | false =>
      rw [hb] at hh
      exact (sReg_ok hD hm hh).mono fun e s' ⟨he, h⟩ => by subst he; exact h
    | true =>
      rw [hb] at hh
      obtain ⟨s2, g, F, hr, h2⟩ := hh
      exact RWp.ren hr ((sReg_ok hD hm h2).mono fun e s' ⟨he, h⟩ => by subst he; exact h)
  | .seq a b, s, k, hh => by
    rw [sCode] at hh
    refine RWp.seq ((sCode_ok brk (c := a) hh).mono fun e s' h => ?_)
    cases e with
    | normal => exact sCode_ok brk (c := b) h
    | exit i => exact h
    | ret => exact h
  | .cond x a b, s, k, hh => by
    rw [sCode] at hh
    split at hh
    · rename_i t ht
      obtain ⟨h1, h2⟩ := hh
      refine RWp.cond ht ?_
      cases t with
      | true => exact sCode_ok brk (c := a) (h1 rfl)
      | false => exact sCode_ok brk (c := b) (h2 rfl)
    · exact hh.elim
  | .block id b, s, k, hh => by
    rw [sCode] at hh
    refine RWp.block ((sCode_ok brk (c := b) hh).mono fun e s' h => ?_)
    cases e with
    | normal => exact h
    | ret => exact h
    | exit i =>
      simp only at h ⊢
      by_cases hi : i = id
      · subst hi
        rw [Nat.beq_refl] at h
        rw [if_pos rfl]; exact h
      · rw [if_neg hi]
        have : Nat.beq i id = false := by
          cases hq : Nat.beq i id with
          | false => rfl
          | true => exact absurd (Nat.eq_of_beq_eq_true hq) hi
        rw [this] at h
        exact h
  | .loop b, s, k, hh => hh
  | .exit id, s, k, hh => .exit hh
  | .label _, s, k, hh => .label hh
  | .ret, s, k, hh => .ret hh
  | .scope b, s, k, hh => by
    rw [sCode] at hh
    have ih := sCode_ok brk (c := b) (s := s) (k := k)
    cases rd with
    | none => exact RWp.scope (ih hh)
    | some r => exact hh.elim
  | .rangeFunc f ps asg b, s, k, hh => hh
  | .goto l, s, k, hh => hh
  | .refuse why, s, k, hh => hh

/-- A loop: each round leaves it, or is nearer to the end. -/
theorem RWp.loopS {σ : Type} (S : σ → St) (I : σ → Prop) (m : σ → Nat) (brk : Nat → Bool) {b : Code} (x0 : σ) {s : St} (hI : I x0) (hr : ∃ g F, Ren pin rd s (S x0) g F)
    (hb : ∀ x, I x → (sCode P D rd brk b (S x) .done).holds P pin rd fun e s' => match e with
      | .normal => ∃ x', m x' < m x ∧ I x' ∧ ∃ g F, Ren pin rd s' (S x') g F
      | .exit i => K (.exit i) s'
      | .ret => K .ret s') : RWp P pin rd (.loop b) s K := by
  obtain ⟨g, F, hr⟩ := hr
  refine RWp.ren hr (RWp.loop (I := fun n s => ∃ x, I x ∧ m x = n ∧ s = S x) (fun n s ⟨x, hx, hn, hs⟩ => ?_) ⟨x0, hI, rfl, rfl⟩)
  subst hs hn
  refine (sCode_ok hD hm brk (hb x hx)).mono fun e s' h => ?_
  cases e with
  | normal =>
    obtain ⟨x', h1, h2, g, F, h3⟩ := h
    exact ⟨m x', S x', g, F, h1, ⟨x', h2, rfl, rfl⟩, h3⟩
  | exit i => exact h
  | ret => exact h

theorem PureC.of {f : FuncId} {fn : Func} {c : Code} {args : List AV} {v : AV} (brk : Nat → Bool) (hfn : D.fn f = some fn) (hc : fn.body = some c) (hfree : AV.frees args = true)
    (hr : (sCode P D none brk c (start fn (numL 0 args) H0) .done).holds P 0 none fun e s' => (e = .normal ∨ e = .ret) ∧ ∃ v0 h2, evEnd D fn s' = some (v0, h2) ∧ Fz h2 v0 v) : PureC P f args v :=
  PureC.of_rwp hD hfn hc hfree (sCode_ok hD hm brk hr)
end
end Go.Rx
