import Derived.Test.YtpbcjdeldhhcpaaGreatDoorRx15
set_option linter.unusedVariables false
set_option linter.unusedSimpArgs false
set_option linter.unusedSectionVars false
noncomputable section
namespace Go.Rx
open Go

/-! ### 31. .. are sound -/
section counting
variable (all : List Oper)
def ch (i : Nat) : Bool := match all[i]? with
  | some o => isChain o
  | none => false
def cntU (p : Nat → Bool) : Nat → Nat
  | 0 => 0
  | i + 1 => cntU p i + (if ch all i = true ∧ p i = true then 1 else 0)
theorem cntU_mono {p q : Nat → Bool} : ∀ n, (∀ i, i < n → ch all i = true → p i = true → q i = true) → cntU all p n ≤ cntU all q n
  | 0, _ => Nat.le_refl _
  | n + 1, h => by
    have ih := cntU_mono n fun i hi => h i (by omega)
    have hn := h n (by omega)
    simp only [cntU]
    by_cases hp : ch all n = true ∧ p n = true
    · rw [if_pos hp, if_pos ⟨hp.1, hn hp.1 hp.2⟩]; omega
    · rw [if_neg hp]; omega
theorem cntU_congr {p q : Nat → Bool} : ∀ n, (∀ i, i < n → ch all i = true → p i = q i) → cntU all p n = cntU all q n
  | 0, _ => rfl
  | n + 1, h => by
    have ih := cntU_congr n fun i hi => h i (by omega)
    simp only [cntU, ih]
    by_cases hc : ch all n = true
    · rw [h n (by omega) hc]
    · rw [if_neg (fun hh => hc hh.1), if_neg (fun hh => hc hh.1)]
theorem cntU_stop {p : Nat → Bool} {i : Nat} : ∀ n, i ≤ n → (∀ k, i ≤ k → k < n → ch all k = true → p k = false) → cntU all p n = cntU all p i := by
  intro n hin
  induction n with
  | zero => intro _; have : i = 0 := by omega
            rw [this]
  | succ n ih =>
    intro h
    by_cases hi : i = n + 1
    · rw [hi]
    · simp only [cntU]
      rw [ih (by omega) fun k h1 h2 => h k h1 (by omega), if_neg fun hh => by rw [h n (by omega) (by omega) hh.1] at hh; cases hh.2]
      rfl
theorem countC_eq (p : Nat → Bool) : ∀ (l : List Oper) (k : Nat), all.drop k = l → cntU all p k + countC p k l = cntU all p (k + l.length)
  | [], k, _ => rfl
  | o :: l, k, h => by
    have hlt : k < all.length := by
      rcases Nat.lt_or_ge k all.length with h1 | h1
      · exact h1
      · rw [List.drop_eq_nil_of_le h1] at h; cases h
    have ho : all[k]? = some o := by
      have := List.drop_eq_getElem_cons hlt
      rw [h] at this
      injection this with h1 h2
      rw [List.getElem?_eq_getElem hlt, h1]
    have hr : all.drop (k + 1) = l := by rw [← List.drop_drop, h]; rfl
    have ih := countC_eq p l (k + 1) hr
    rw [countC, List.length_cons, show k + (l.length + 1) = k + 1 + l.length by omega, ← ih]
    simp only [cntU]
    have hch : ch all k = isChain o := by simp [ch, ho]
    rw [hch]
    cases isChain o <;> cases p k <;> simp <;> omega
theorem countC_all (p : Nat → Bool) : countC p 0 all = cntU all p all.length := by
  have := countC_eq all p all 0 rfl
  simpa [cntU] using this
end counting

/-! The masks say no more than the edges. -/
def Closed (all : List Oper) (S : Nat → Bool) : Prop := ∀ j o, all[j]? = some o → S j = true → ∀ e ∈ o.after.toList, Region.binds .any e = true → S e.on = true
def Ready (S : Nat → Bool) (o : Oper) : Prop := ∀ e ∈ o.after.toList, Region.binds .any e = true → S e.on = true

theorem preMask_bit (ms : List Nat) (i : Nat) : ∀ (es : List Edge) (s : Nat), (es.foldl (fun s e => bif Region.binds .any e then s ||| (2 ^ e.on ||| (ms[e.on]?).getD 0) else s) s).testBit i = true →
    s.testBit i = true ∨ ∃ e ∈ es, Region.binds .any e = true ∧ (i = e.on ∨ ((ms[e.on]?).getD 0).testBit i = true)
  | [], s, h => .inl h
  | e :: es, s, h => by
    rw [List.foldl_cons] at h
    rcases preMask_bit ms i es _ h with h1 | ⟨e', h1, h2⟩
    · cases hb : Region.binds .any e with
      | false => rw [hb] at h1; exact .inl h1
      | true =>
        rw [hb] at h1
        simp only [cond_true, Nat.testBit_or, Bool.or_eq_true] at h1
        rcases h1 with h1 | h1 | h1
        · exact .inl h1
        · refine .inr ⟨e, by simp, hb, .inl ?_⟩
          rw [Nat.testBit_two_pow] at h1
          exact (of_decide_eq_true h1).symm
        · exact .inr ⟨e, by simp, hb, .inr h1⟩
    · exact .inr ⟨e', by simp [h1], h2⟩

def MaskOk (all : List Oper) (ms : List Nat) : Prop := ∀ (j : Nat) (o : Oper) (m : Nat), all[j]? = some o → ms[j]? = some m → ∀ S, Closed all S → Ready S o → ∀ i, m.testBit i = true → S i = true
theorem masksF_ok {all : List Oper} : ∀ (l : List Oper) (k : Nat) (ms : List Nat), all.drop k = l → ms.length = k → MaskOk all ms → MaskOk all (masksF l ms)
  | [], _, ms, _, _, h => h
  | o :: l, k, ms, hk, hl, h => by
    have hlt : k < all.length := by
      rcases Nat.lt_or_ge k all.length with h1 | h1
      · exact h1
      · rw [List.drop_eq_nil_of_le h1] at hk; cases hk
    have ho : all[k]? = some o := by
      have := List.drop_eq_getElem_cons hlt
      rw [hk] at this
      injection this with h1 h2
      rw [List.getElem?_eq_getElem hlt, h1]
    have hr : all.drop (k + 1) = l := by rw [← List.drop_drop, hk]; rfl
    rw [masksF]
    refine masksF_ok l (k + 1) _ hr (by simp [hl]) ?_
    intro j oj m hj hm S hS hR i hi
    by_cases hjk : j < k
    · rw [List.getElem?_append_left (by omega)] at hm
      exact h j oj m hj hm S hS hR i hi
    · by_cases hjk2 : j = k
      · subst hjk2
        rw [List.getElem?_append_right (by omega), hl, Nat.sub_self] at hm
        simp only [List.getElem?_cons_zero, Option.some.injEq] at hm
        subst hm
        rw [ho] at hj; cases hj
        rcases preMask_bit ms i _ _ hi with h0 | ⟨e, h1, h2, h3⟩
        · simp at h0
        · have hSe := hR e h1 h2
          rcases h3 with rfl | h3
          · exact hSe
          · cases hme : ms[e.on]? with
            | none => rw [hme] at h3; simp at h3
            | some m' =>
              rw [hme] at h3
              have hel : e.on < ms.length := (List.getElem?_eq_some_iff.1 hme).1
              have hel2 : e.on < all.length := by omega
              have hoe : all[e.on]? = some (all[e.on]'hel2) := List.getElem?_eq_getElem hel2
              exact h e.on _ m' hoe hme S hS (fun e' h4 h5 => hS e.on _ hoe hSe e' h4 h5) i (by simpa using h3)
      · rw [List.getElem?_eq_none (by simp; omega)] at hm; cases hm
theorem masks_ok (all : List Oper) : MaskOk all (masks all) := masksF_ok all 0 [] rfl rfl (fun j o m _ h => by simp at h)
theorem masksF_length : ∀ (l : List Oper) (ms : List Nat), (masksF l ms).length = ms.length + l.length
  | [], ms => by simp [masksF]
  | o :: l, ms => by rw [masksF, masksF_length l]; simp; omega
theorem masks_length (all : List Oper) : (masks all).length = all.length := by rw [masks, masksF_length]; simp

theorem edgesOk_spec {all : List Oper} : ∀ (l : List Oper) (k : Nat), all.drop k = l → edgesOk k l = true → ∀ j o, k ≤ j → all[j]? = some o → ∀ e ∈ o.after.toList, Region.binds .any e = true → e.on < j
  | [], k, hk, _, j, o, hkj, ho => by
    have : all.length ≤ k := by
      rcases Nat.lt_or_ge k all.length with h1 | h1
      · rw [List.drop_eq_getElem_cons h1] at hk; cases hk
      · exact h1
    rw [List.getElem?_eq_none (by omega)] at ho; cases ho
  | o' :: l, k, hk, he, j, o, hkj, ho => by
    have hlt : k < all.length := by
      rcases Nat.lt_or_ge k all.length with h1 | h1
      · exact h1
      · rw [List.drop_eq_nil_of_le h1] at hk; cases hk
    have ho' : all[k]? = some o' := by
      have := List.drop_eq_getElem_cons hlt
      rw [hk] at this
      injection this with h1 h2
      rw [List.getElem?_eq_getElem hlt, h1]
    have hr : all.drop (k + 1) = l := by rw [← List.drop_drop, hk]; rfl
    rw [edgesOk] at he
    obtain ⟨h1, h2⟩ := bif_true he
    by_cases hjk : j = k
    · subst hjk
      rw [ho'] at ho; cases ho
      intro e hm hb
      have := List.all_eq_true.1 h1 e hm
      rw [hb] at this
      simp only [Bool.not_true, Bool.false_or] at this
      exact Nat.le_of_ble_eq_true this
    · exact edgesOk_spec l (k + 1) hr h2 j o (by omega) ho

theorem pairsOk_spec {all : List Oper} {ms : List Nat} (h : pairsOk all ms = true) {i j : Nat} {oi oj : Oper} {m : Nat} (hij : i < j) (hi : all[i]? = some oi) (hj : all[j]? = some oj) (hm : ms[j]? = some m) (hn : need all oi oj = true) : m.testBit i = true := by
  have hjl : j < all.length := (List.getElem?_eq_some_iff.1 hj).1
  have h1 := List.all_eq_true.1 h j (List.mem_range.2 hjl)
  have h2 := List.all_eq_true.1 h1 i (List.mem_range.2 hij)
  rw [hi, hj, hm] at h2
  simp only [hn, Bool.not_true, Bool.false_or] at h2
  exact h2

/-! The trace. -/
structure TraceR (P : Program) (D : Tab) (call : KCall) (round : KRound) (all : List Oper) (k : Nat) (s sf : St) (tr : List (T AV × AV)) (hs : List H) (σ : Nat → St) (v : Nat → AV) : Prop where
  first : σ k = s
  last : σ all.length = sf
  step : ∀ i, k ≤ i → i < all.length → ∃ o h', all[i]? = some o ∧ evStep1 P D call round all o (σ i).tm (σ i).h = some (v i, h') ∧ (σ i).put o.dst (v i) h' = some (σ (i + 1)) ∧ tr[i - k]? = some ((σ i).tm, v i)
  stage : ∀ i, k ≤ i → i ≤ all.length → (s.h :: hs)[cntU all (fun _ => true) i - cntU all (fun _ => true) k]? = some (σ i).h
  le : k ≤ all.length

theorem cntU_le {all : List Oper} {p : Nat → Bool} : ∀ {i j : Nat}, i ≤ j → cntU all p i ≤ cntU all p j := by
  intro i j h
  induction j with
  | zero => have : i = 0 := by omega
            rw [this]; exact Nat.le_refl _
  | succ j ih =>
    by_cases hi : i = j + 1
    · rw [hi]; exact Nat.le_refl _
    · have := ih (by omega)
      simp only [cntU]; omega

theorem evTr_spec {P : Program} {D : Tab} {call : KCall} {round : KRound} {all : List Oper} : ∀ (l : List Oper) (k : Nat) {s sf : St} {tr : List (T AV × AV)} {hs : List H}, all.drop k = l → k ≤ all.length → evTr P D call round all l s = some (tr, hs, sf) → ∃ σ v, TraceR P D call round all k s sf tr hs σ v
  | [], k, s, sf, tr, hs, hk, hle, he => by
    simp only [evTr, Option.some.injEq, Prod.mk.injEq] at he
    obtain ⟨rfl, rfl, rfl⟩ := he
    have hkl : k = all.length := by
      rcases Nat.lt_or_ge k all.length with h1 | h1
      · rw [List.drop_eq_getElem_cons h1] at hk; cases hk
      · omega
    refine ⟨fun _ => s, fun _ => .any, rfl, rfl, fun i h1 h2 => by omega, fun i h1 h2 => ?_, hle⟩
    have : i = k := by omega
    subst this
    simp
  | o :: l, k, s, sf, tr, hs, hk, hle, he => by
    have hlt : k < all.length := by
      rcases Nat.lt_or_ge k all.length with h1 | h1
      · exact h1
      · rw [List.drop_eq_nil_of_le h1] at hk; cases hk
    have ho : all[k]? = some o := by
      have := List.drop_eq_getElem_cons hlt
      rw [hk] at this
      injection this with h1 h2
      rw [List.getElem?_eq_getElem hlt, h1]
    have hr : all.drop (k + 1) = l := by rw [← List.drop_drop, hk]; rfl
    rw [evTr] at he
    split at he
    case h_2 => cases he
    rename_i u h' hst
    split at he
    case h_2 => cases he
    rename_i s' hput
    split at he
    case h_2 => cases he
    rename_i tr' hs' sf' hrec
    simp only [Option.some.injEq, Prod.mk.injEq] at he
    obtain ⟨rfl, rfl, rfl⟩ := he
    obtain ⟨σ, v, q1, q2, q3, q4, q5⟩ := evTr_spec l (k + 1) hr hlt hrec
    have hs'h : s'.h = h' := (St.put_spec hput).1
    have hchk : ch all k = isChain o := by simp [ch, ho]
    refine ⟨fun i => if i = k then s else σ i, fun i => if i = k then u else v i, by simp, by show (if all.length = k then s else σ all.length) = _; rw [if_neg (by omega)]; exact q2, fun i h1 h2 => ?_, fun i h1 h2 => ?_, hle⟩
    · by_cases hi : i = k
      · subst hi
        refine ⟨o, h', ho, ?_, ?_, ?_⟩
        · simp only [if_true]; exact hst
        · simp only [if_true]; rw [if_neg (by omega), q1]; exact hput
        · simp
      · obtain ⟨oi, hi', r1, r2, r3, r4⟩ := q3 i (by omega) h2
        refine ⟨oi, hi', r1, ?_, ?_, ?_⟩
        · simp only [if_neg hi]; exact r2
        · simp only [if_neg hi]; rw [if_neg (by omega)]; exact r3
        · simp only [if_neg hi]
          rw [show i - k = (i - (k + 1)) + 1 by omega, List.getElem?_cons_succ]; exact r4
    · by_cases hi : i = k
      · subst hi; simp
      · simp only [if_neg hi]
        have h3 := q4 i (by omega) h2
        have hmono : cntU all (fun _ => true) (k + 1) ≤ cntU all (fun _ => true) i := cntU_le (by omega)
        have hk1 : cntU all (fun _ => true) (k + 1) = cntU all (fun _ => true) k + (if isChain o = true then 1 else 0) := by simp only [cntU, hchk, and_true]
        rw [hs'h] at h3
        cases hc : isChain o with
        | true =>
          rw [hc] at hk1
          simp only [if_true] at hk1
          simp only [cond_true]
          rw [show cntU all (fun _ => true) i - cntU all (fun _ => true) k = (cntU all (fun _ => true) i - cntU all (fun _ => true) (k + 1)) + 1 by omega, List.getElem?_cons_succ]
          exact h3
        | false =>
          rw [hc] at hk1
          simp only [Bool.false_eq_true, if_false, Nat.add_zero] at hk1
          simp only [cond_false]
          have hh : h' = s.h := kd_float hc hst
          rw [← hh, ← hk1]
          exact h3

/-! The temporaries behind a set of operations. -/
def tS (all : List Oper) (v : Nat → AV) (t0 : T AV) (S : Nat → Bool) : Nat → T AV
  | 0 => t0
  | i + 1 => if S i = true then (match (all[i]?).bind (·.dst) with
    | some d => (tS all v t0 S i).set d (some (v i))
    | none => tS all v t0 S i) else tS all v t0 S i

section temps
variable {all : List Oper} {v : Nat → AV} {t0 : T AV} {S S' : Nat → Bool}
theorem tS_keep {i t : Nat} (h : ∀ o, all[i]? = some o → o.dst = some t → S i = false) : (tS all v t0 S (i + 1)).get t = (tS all v t0 S i).get t := by
  simp only [tS]
  split
  · rename_i hs
    cases ho : all[i]? with
    | none => rfl
    | some o =>
      simp only [Option.bind_some]
      cases hd : o.dst with
      | none => rfl
      | some d =>
        simp only
        rw [T.get_set]
        by_cases hdt : t = d
        · subst hdt
          rw [h o ho hd] at hs; cases hs
        · rw [if_neg hdt]
  · rfl
theorem tS_later {i t : Nat} : ∀ n, i ≤ n → (∀ k, i ≤ k → k < n → ∀ o, all[k]? = some o → o.dst = some t → S k = false) → (tS all v t0 S n).get t = (tS all v t0 S i).get t := by
  intro n hin
  induction n with
  | zero => intro _; have : i = 0 := by omega
            rw [this]
  | succ n ih =>
    intro h
    by_cases hi : i = n + 1
    · rw [hi]
    · rw [tS_keep (h n (by omega) (by omega)), ih (by omega) fun k a b => h k a (by omega)]
theorem tS_same {t : Nat} : ∀ n, (∀ k, k < n → ∀ o, all[k]? = some o → o.dst = some t → S k = S' k) → (tS all v t0 S n).get t = (tS all v t0 S' n).get t
  | 0, _ => rfl
  | n + 1, h => by
    have ih := tS_same n fun k hk => h k (by omega)
    cases ho : all[n]? with
    | none => simp only [tS, ho, Option.bind_none, ite_self]; exact ih
    | some o =>
      cases hd : o.dst with
      | none => simp only [tS, ho, Option.bind_some, hd, ite_self]; exact ih
      | some d =>
        by_cases hdt : t = d
        · subst hdt
          have hs := h n (by omega) o ho hd
          simp only [tS, ho, Option.bind_some, hd, hs]
          split
          · rw [T.get_set, T.get_set, if_pos rfl, if_pos rfl]
          · exact ih
        · have k1 : ∀ (X : Nat → Bool), (tS all v t0 X (n + 1)).get t = (tS all v t0 X n).get t := fun X => by
            simp only [tS, ho, Option.bind_some, hd]
            split
            · rw [T.get_set, if_neg hdt]
            · rfl
          rw [k1 S, k1 S']; exact ih
end temps

theorem need_chain {all : List Oper} {oi oj : Oper} (h1 : isChain oi = true) (h2 : isChain oj = true) : need all oi oj = true := by simp [need, h1, h2]
theorem need_read {all : List Oper} {oi oj : Oper} {d : Tmp} (h1 : oi.dst = some d) (h2 : d ∈ looks all oj) : need all oi oj = true := by simp [need, h1, h2]
theorem need_write {all : List Oper} {oi oj : Oper} {d : Tmp} (h1 : oi.dst = some d) (h2 : oj.dst = some d) : need all oi oj = true := by simp [need, h1, h2]
theorem need_anti {all : List Oper} {oi oj : Oper} {d : Tmp} (h1 : oj.dst = some d) (h2 : d ∈ looks all oi) : need all oi oj = true := by simp [need, h1, h2]

theorem readAt_spec {P : Program} {D : Tab} {call : KCall} {round : KRound} {all : List Oper} {o : Oper} {tm : T AV} {v : AV} {lo hi : Nat} : ∀ {hs : List H} {k : Nat}, readAt P D call round all o tm v lo hi k hs = true → ∀ (m : Nat) (h : H), hs[m]? = some h → lo ≤ k + m → k + m ≤ hi → ∃ h', evStep1 P D call round all o tm h = some (v, h')
  | [], k, _, m, h, hm, _, _ => by simp at hm
  | h0 :: hs, k, hr, m, h, hm, h1, h2 => by
    rw [readAt] at hr
    obtain ⟨ha, hb⟩ := bif_true hr
    cases m with
    | zero =>
      simp only [List.getElem?_cons_zero, Option.some.injEq] at hm
      subst hm
      have e1 : Nat.blt k lo = false := by
        cases hx : Nat.blt k lo with
        | false => rfl
        | true => have := Nat.le_of_ble_eq_true hx; omega
      have e2 : Nat.blt hi k = false := by
        cases hx : Nat.blt hi k with
        | false => rfl
        | true => have := Nat.le_of_ble_eq_true hx; omega
      rw [e1, e2] at ha
      simp only [cond_false] at ha
      split at ha
      · rename_i v' h' hs'
        rw [AV.beq_eq ha]
        exact ⟨h', hs'⟩
      · cases ha
    | succ m =>
      rw [List.getElem?_cons_succ] at hm
      exact readAt_spec hb m h hm (by omega) (by omega)

theorem readsOk_spec {P : Program} {D : Tab} {call : KCall} {round : KRound} {all : List Oper} {ms : List Nat} {hs : List H} : ∀ {l : List Oper} {k : Nat} {tr : List (T AV × AV)}, all.drop k = l → readsOk P D call round all ms hs k l tr = true → ∀ i o tm v, k ≤ i → all[i]? = some o → tr[i - k]? = some (tm, v) → kdOf o = .read →
    readAt P D call round all o tm v (countC (fun j => ((ms[i]?).getD 0).testBit j) 0 all) (countC (fun j => !(((ms[j]?).getD 0).testBit i)) 0 all) 0 hs = true
  | [], k, tr, hk, _, i, o, tm, v, hki, ho, _, _ => by
    have : all.length ≤ k := by
      rcases Nat.lt_or_ge k all.length with h1 | h1
      · rw [List.drop_eq_getElem_cons h1] at hk; cases hk
      · exact h1
    rw [List.getElem?_eq_none (by omega)] at ho; cases ho
  | o' :: l, k, tr, hk, he, i, o, tm, v, hki, ho, ht, hkd => by
    have hlt : k < all.length := by
      rcases Nat.lt_or_ge k all.length with h1 | h1
      · exact h1
      · rw [List.drop_eq_nil_of_le h1] at hk; cases hk
    have ho' : all[k]? = some o' := by
      have := List.drop_eq_getElem_cons hlt
      rw [hk] at this
      injection this with h1 h2
      rw [List.getElem?_eq_getElem hlt, h1]
    have hr : all.drop (k + 1) = l := by rw [← List.drop_drop, hk]; rfl
    cases tr with
    | nil => simp at ht
    | cons p tr =>
      obtain ⟨tm0, v0⟩ := p
      rw [readsOk] at he
      obtain ⟨h1, h2⟩ := bif_true he
      by_cases hik : i = k
      · subst hik
        rw [ho'] at ho; cases ho
        rw [Nat.sub_self] at ht
        simp only [List.getElem?_cons_zero, Option.some.injEq, Prod.mk.injEq] at ht
        obtain ⟨rfl, rfl⟩ := ht
        rw [hkd] at h1
        exact h1
      · rw [show i - k = (i - (k + 1)) + 1 by omega, List.getElem?_cons_succ] at ht
        exact readsOk_spec hr h2 i o tm v (by omega) ho ht hkd
end Go.Rx
