import Derived.Test.YtpbcjdeldhhcpaaGreatDoorSx4
set_option linter.unusedVariables false
set_option linter.unusedSimpArgs false
set_option linter.unusedSectionVars false
set_option linter.unusedVariables false
noncomputable section
namespace Go.Rx
open Go

/-! ### S7. The tree is sound: regions -/
def EqT (a b : T AV) : Prop := ∀ i, a.get i = b.get i
structure EqS (s s0 : St) : Prop where
  tm : EqT s.tm s0.tm
  nt : s.nt = s0.nt
  df : s.df = s0.df
  h : s.h = s0.h
theorem EqS.refl (s : St) : EqS s s := ⟨fun _ => rfl, rfl, rfl, rfl⟩
def TrEq (tr tr0 : List (T AV × AV)) : Prop := ∀ (i : Nat) tm0 v, tr0[i]? = some (tm0, v) → ∃ tm, tr[i]? = some (tm, v) ∧ EqT tm tm0
theorem TrEq.nil : TrEq [] [] := fun i _ _ h => by simp at h
theorem TrEq.cons {tm tm0 : T AV} {v : AV} {tr tr0 : List (T AV × AV)} (h : EqT tm tm0) (t : TrEq tr tr0) : TrEq ((tm, v) :: tr) ((tm0, v) :: tr0) := fun i m u hi => by
  cases i with
  | zero => simp only [List.getElem?_cons_zero, Option.some.injEq, Prod.mk.injEq] at hi; obtain ⟨rfl, rfl⟩ := hi; exact ⟨tm, rfl, h⟩
  | succ i => simpa using t i m u (by simpa using hi)

theorem evStep1_V {P : Program} {D : Tab} {call call' : KCall} {round : KRound} {all : List Oper} {o : Oper} {tm : T AV} {h : H} (hc : isV o = true → call o.dst = call' o.dst) : evStep1 P D call round all o tm h = evStep1 P D call' round all o tm h := by
  unfold evStep1
  cases hw : wantedA all tm o with
  | none => rfl
  | some b =>
    cases b with
    | false => rfl
    | true =>
      simp only
      cases he : evOp P D (evalO tm) o h with
      | none => rfl
      | some r =>
        cases hv : isV o with
        | true => rw [hc hv]
        | false => rcases evOp_enter hv he with ⟨v, h', rfl⟩ | ⟨h', rfl⟩ <;> rfl
theorem evTr_V {P : Program} {D : Tab} {call call' : KCall} {round : KRound} {all : List Oper} : ∀ {os : List Oper} {s : St}, (∀ o ∈ os, isV o = true → call o.dst = call' o.dst) → evTr P D call round all os s = evTr P D call' round all os s
  | [], _, _ => rfl
  | o :: os, s, hc => by
    rw [evTr, evTr, evStep1_V (call' := call') (hc o List.mem_cons_self)]
    cases evStep1 P D call' round all o s.tm s.h with
    | none => rfl
    | some p =>
      obtain ⟨v, h'⟩ := p
      simp only
      cases s.put o.dst v h' with
      | none => rfl
      | some s' => simp only; rw [evTr_V fun o' ho => hc o' (List.mem_cons_of_mem _ ho)]
theorem freeD_spec {d : Option Tmp} : ∀ {os : List Oper}, freeD d os = true → ∀ o ∈ os, isV o = true → o.dst ≠ d
  | [], _, o, h, _ => by cases h
  | o' :: os, hf, o, h, hv => by
    rw [freeD] at hf
    rcases List.mem_cons.1 h with rfl | h
    · intro hd
      rw [hv, hd] at hf
      cases d with
      | none => cases hf
      | some x => simp [sameD] at hf
    · refine freeD_spec (os := os) ?_ o h hv
      cases h1 : isV o' with
      | false => rw [h1] at hf; exact hf
      | true =>
        rw [h1] at hf
        cases h2 : sameD o'.dst d with
        | true => rw [h2] at hf; cases hf
        | false => rw [h2] at hf; exact hf

def noRound : KRound := fun _ _ _ _ => none
theorem noRound_ok {P : Program} : ∀ d, RoundOK P (noRound d) := fun d id args h v h' he => by cases he

section
variable {P : Program} {D : Tab} {pin : Nat} {rd : Option Nat} {K : Ex → St → Prop}
theorem sPut_ok {s s0 : St} (hs : EqS s s0) {d : Option Tmp} {v : AV} {h : H} {k : St → Tr} (hh : (sPut s d v h k).holds P pin rd K) : ∃ s' s0', s0.put d v h = some s0' ∧ EqS s' s0' ∧ (k s').holds P pin rd K := by
  obtain ⟨tm, nt, df, h0⟩ := s
  unfold sPut at hh
  simp only [fH_eq] at hh
  cases d with
  | none => exact ⟨⟨tm, nt, df, h⟩, { s0 with h := h }, rfl, ⟨hs.tm, hs.nt, hs.df, rfl⟩, hh⟩
  | some d =>
    simp only at hh
    cases hb : Nat.ble nt d with
    | true => rw [hb] at hh; exact hh.elim
    | false =>
      rw [hb] at hh
      simp only [cond_false] at hh
      split at hh
      · rename_i l
        rw [fV_eq] at hh
        refine ⟨⟨.list ((d, some v) :: l), nt, df, h⟩, { s0 with tm := s0.tm.set d (some v), h := h }, ?_, ⟨fun i => ?_, hs.nt, hs.df, rfl⟩, hh⟩
        · unfold St.put; simp only; rw [← hs.nt]; simp only; rw [hb]; rfl
        · simp only [T.get_set]
          rw [T.get_list, lookL_cons, ← T.get_list]
          have := hs.tm i
          simp only at this
          rw [this]
      · exact hh.elim

theorem sKnow_ok {s s0 : St} (hs : EqS s s0) {d : Tmp} {v : AV} (hg : s.tm.get d = some v) {k : St → Tr} (hh : (sKnow s d v k).holds P pin rd K) : ∃ s', EqS s' s0 ∧ s'.tm.get d = some v ∧ (k s').holds P pin rd K := by
  unfold sKnow at hh
  split at hh
  · rename_i l nt df h
    refine ⟨⟨.list ((d, some v) :: l), nt, df, h⟩, ⟨fun i => ?_, hs.nt, hs.df, hs.h⟩, ?_, hh⟩
    · have := hs.tm i
      rw [← this]
      simp only at hg ⊢
      rw [T.get_list, lookL_cons]
      by_cases hi : i = d
      · rw [if_pos hi, hi, hg]
      · rw [if_neg hi]; rfl
    · simp only
      rw [T.get_list, lookL_cons, if_pos rfl]
  · exact hh.elim

theorem sTr_ok (hD : D.Ok P) {all : List Oper} : ∀ {os : List Oper} {gs : List (Nat × Bool)} {s s0 : St} {k : List (T AV × AV) → List H → St → Tr}, EqS s s0 → (sTr P D all os gs s k).holds P pin rd K →
    ∃ (call : KCall) (tr tr0 : List (T AV × AV)) (hs : List H) (sf sf0 : St), (∀ d, CallOK P (call d)) ∧ evTr P D call noRound all os s0 = some (tr0, hs, sf0) ∧ TrEq tr tr0 ∧ EqS sf sf0 ∧ (k tr hs sf).holds P pin rd K
  | [], gs, s, s0, k, hs, hh => ⟨fun _ _ _ _ => none, [], [], [], s, s0, fun _ f args h v h' he => (by cases he), rfl, .nil, hs, hh⟩
  | o :: os, gs, s, s0, k, hs, hh => by
    -- an operation that is done
    have run : ∀ {gs : List (Nat × Bool)} {s : St}, EqS s s0 → wantedA all s.tm o = some true →
        (sOp P D os (evalO s.tm) o s.h fun v h' => sPut s o.dst v h' fun s' => sTr P D all os gs s' fun tr hs sf => k ((s.tm, v) :: tr) (bif isChain o then h' :: hs else hs) sf).holds P pin rd K →
        ∃ (call : KCall) (tr tr0 : List (T AV × AV)) (hs : List H) (sf sf0 : St), (∀ d, CallOK P (call d)) ∧ evTr P D call noRound all (o :: os) s0 = some (tr0, hs, sf0) ∧ TrEq tr tr0 ∧ EqS sf sf0 ∧ (k tr hs sf).holds P pin rd K := by
      intro gs s hs hw hh
      obtain ⟨v, h', h1, h2⟩ := sOp_ok hD hh
      obtain ⟨s', s0', h3, h4, h5⟩ := sPut_ok hs h1
      obtain ⟨call, tr, tr0, hss, sf, sf0, k1, k2, k3, k4, k5⟩ := sTr_ok hD h4 h5
      have hcg : ∀ call : KCall, evStep1 P D call noRound all o s0.tm s0.h = evStep1 P D call noRound all o s.tm s.h := fun call => by
        rw [hs.h]; exact evStep1_congr fun t _ => (hs.tm t).symm
      rcases h2 with ⟨r, hr, hcase⟩ | ⟨f, args, hr, hcr, hfd⟩
      · refine ⟨call, (s.tm, v) :: tr, (s0.tm, v) :: tr0, _, sf, sf0, k1, ?_, k3.cons hs.tm, k4, k5⟩
        have : evStep1 P D call noRound all o s0.tm s0.h = some (v, h') := by
          rw [hcg]
          unfold evStep1
          rw [hw]
          simp only [hr]
          rcases hcase with rfl | ⟨rfl, rfl⟩ <;> rfl
        rw [evTr, this]
        simp only [h3, k2]
      · have hV : isV o = true := by
          cases hv : isV o with
          | true => rfl
          | false => rcases evOp_enter hv hr with ⟨v, h', he⟩ | ⟨h', he⟩ <;> cases he
        classical
        refine ⟨fun d => if d = o.dst then fun f' args' h0 => if f' = f ∧ args' = args ∧ h0 = s.h then some (v, h') else none else call d, (s.tm, v) :: tr, (s0.tm, v) :: tr0, bif isChain o then h' :: hss else hss, sf, sf0, fun d => ?_, ?_, k3.cons hs.tm, k4, k5⟩
        · simp only
          by_cases hd : d = o.dst
          · rw [if_pos hd]
            intro f' args' h0 v' h'' he
            simp only at he
            split at he
            · rename_i hc
              obtain ⟨rfl, rfl, rfl⟩ := hc
              simp only [Option.some.injEq, Prod.mk.injEq] at he
              obtain ⟨rfl, rfl⟩ := he
              exact hcr
            · cases he
          · rw [if_neg hd]; exact k1 d
        · have hst : ∀ call : KCall, (∀ f' args' h0, call o.dst f' args' h0 = if f' = f ∧ args' = args ∧ h0 = s.h then some (v, h') else none) → evStep1 P D call noRound all o s0.tm s0.h = some (v, h') := fun call hcall => by
            rw [hcg]
            unfold evStep1
            rw [hw]
            simp only [hr]
            rw [hcall, if_pos ⟨rfl, rfl, rfl⟩]
          rw [evTr, hst _ (fun f' args' h0 => by simp only [if_true])]
          simp only [h3]
          rw [evTr_V (call' := call) fun o' ho hv => (by rw [if_neg (freeD_spec hfd o' ho hv)]), k2]
    have pass : ∀ {gs : List (Nat × Bool)} {s : St}, EqS s s0 → wantedA all s.tm o = some false →
        (sPut s o.dst (.tuple []) s.h fun s' => sTr P D all os gs s' fun tr hs sf => k ((s.tm, .tuple []) :: tr) (bif isChain o then s.h :: hs else hs) sf).holds P pin rd K →
        ∃ (call : KCall) (tr tr0 : List (T AV × AV)) (hs : List H) (sf sf0 : St), (∀ d, CallOK P (call d)) ∧ evTr P D call noRound all (o :: os) s0 = some (tr0, hs, sf0) ∧ TrEq tr tr0 ∧ EqS sf sf0 ∧ (k tr hs sf).holds P pin rd K := by
      intro gs s hs hw hh
      obtain ⟨s', s0', h3, h4, h5⟩ := sPut_ok hs hh
      obtain ⟨call, tr, tr0, hss, sf, sf0, k1, k2, k3, k4, k5⟩ := sTr_ok hD h4 h5
      refine ⟨call, (s.tm, .tuple []) :: tr, (s0.tm, .tuple []) :: tr0, _, sf, sf0, k1, ?_, k3.cons hs.tm, k4, k5⟩
      have : evStep1 P D call noRound all o s0.tm s0.h = some (.tuple [], s.h) := by
        rw [hs.h, evStep1_congr (tm' := s.tm) fun t _ => (hs.tm t).symm]
        unfold evStep1
        rw [hw]
      rw [evTr, this]
      simp only [h3, k2]
    unfold sTr at hh
    cases hg : o.guard with
    | none =>
      rw [hg] at hh
      exact run hs (by unfold wantedA; rw [hg]) hh
    | some p =>
      obtain ⟨j, want⟩ := p
      rw [hg] at hh
      simp only at hh
      cases hj : all[j]? with
      | none => rw [hj] at hh; exact hh.elim
      | some oj =>
        rw [hj] at hh
        simp only at hh
        cases hd : oj.dst with
        | none => rw [hd] at hh; exact hh.elim
        | some d =>
          rw [hd] at hh
          simp only at hh
          have hW : ∀ (s : St) (b : Bool), s.tm.get d = some (.bool b) → wantedA all s.tm o = some (b == want) := fun s b hb => by
            unfold wantedA; simp only [hg, hj, hd, hb]
          have both : ∀ {gs : List (Nat × Bool)} {s : St} (b : Bool), EqS s s0 → s.tm.get d = some (.bool b) → ((bif (b == want) then
              (sOp P D os (evalO s.tm) o s.h fun v h' => sPut s o.dst v h' fun s' => sTr P D all os gs s' fun tr hs sf => k ((s.tm, v) :: tr) (bif isChain o then h' :: hs else hs) sf)
              else (sPut s o.dst (.tuple []) s.h fun s' => sTr P D all os gs s' fun tr hs sf => k ((s.tm, .tuple []) :: tr) (bif isChain o then s.h :: hs else hs) sf)).holds P pin rd K) →
              ∃ (call : KCall) (tr tr0 : List (T AV × AV)) (hs : List H) (sf sf0 : St), (∀ d, CallOK P (call d)) ∧ evTr P D call noRound all (o :: os) s0 = some (tr0, hs, sf0) ∧ TrEq tr tr0 ∧ EqS sf sf0 ∧ (k tr hs sf).holds P pin rd K := by
            intro gs s b hs hb hh
            have hw := hW s b hb
            cases hbw : (b == want) with
            | true => rw [hbw] at hh hw; exact run hs hw hh
            | false => rw [hbw] at hh hw; exact pass hs hw hh
          have turn : ∀ (a b : Tr), (bif want then a else b) = (bif (true == want) then a else b) := fun a b => by cases want <;> rfl
          have turn2 : ∀ (a b : Tr), (bif want then b else a) = (bif (false == want) then a else b) := fun a b => by cases want <;> rfl
          split at hh
          · rename_i b hb
            split at hh
            · split at hh
              · exact both true hs hb (by rw [turn] at hh; exact hh)
              · exact hh.elim
            · split at hh
              · exact hh.elim
              · exact both false hs hb (by rw [turn2] at hh; exact hh)
            · obtain ⟨h1, h2⟩ := hh
              cases b with
              | true =>
                obtain ⟨s', e1, e2, e3⟩ := sKnow_ok hs hb (h1 rfl)
                exact both (s := s') true e1 e2 (by have h1 : (bif want then _ else _ : Tr).holds P pin rd K := e3; rw [turn] at h1; exact h1)
              | false =>
                obtain ⟨s', e1, e2, e3⟩ := sKnow_ok hs hb (h2 rfl)
                exact both (s := s') false e1 e2 (by have h1 : (bif want then _ else _ : Tr).holds P pin rd K := e3; rw [turn2] at h1; exact h1)
          · rename_i vs hb
            exact pass hs (by unfold wantedA; simp only [hg, hj, hd, hb]) hh
          · exact hh.elim
end
end Go.Rx
