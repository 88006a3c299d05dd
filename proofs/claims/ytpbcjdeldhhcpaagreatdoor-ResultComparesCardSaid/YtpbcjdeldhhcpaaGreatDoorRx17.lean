import Derived.Test.YtpbcjdeldhhcpaaGreatDoorRx16
import Derived.OrdersIn
set_option linter.unusedVariables false
set_option linter.unusedSimpArgs false
set_option linter.unusedSectionVars false
noncomputable section
namespace Go.Rx
open Go

/-! ### 32. A region that draws its order -/
def Stg (all : List Oper) (S : Nat → Bool) : Nat := cntU all S all.length
def lst (listed : Array Bool) : Nat → Bool := fun i => listed.getD i false
def un (S : Nat → Bool) : Nat → Nat
  | 0 => 0
  | i + 1 => un S i + (if S i = true then 0 else 1)
theorem un_zero {S : Nat → Bool} : ∀ {n : Nat}, un S n = 0 → ∀ i, i < n → S i = true
  | n + 1, h, i, hi => by
    simp only [un] at h
    by_cases hin : i = n
    · subst hin
      by_cases hs : S i = true
      · exact hs
      · rw [if_neg hs] at h; omega
    · refine un_zero (n := n) ?_ i (by omega)
      split at h <;> omega
theorem un_more {S S' : Nat → Bool} {i : Nat} (hi : S i = false) (hi' : S' i = true) (hs : ∀ k, k ≠ i → S' k = S k) : ∀ (n : Nat), un S' n + (if i < n then 1 else 0) = un S n
  | 0 => by simp [un]
  | n + 1 => by
    have ih := un_more hi hi' hs n
    simp only [un]
    by_cases hin : n = i
    · subst hin
      rw [hi, hi']
      rw [if_neg (Nat.lt_irrefl _)] at ih
      rw [if_pos (Nat.lt_succ_self n), if_pos rfl, if_neg Bool.false_ne_true]; omega
    · rw [hs n hin]
      by_cases h1 : i < n
      · rw [if_pos h1] at ih; rw [if_pos (show i < n + 1 by omega)]; omega
      · rw [if_neg h1] at ih; rw [if_neg (show ¬ i < n + 1 by omega)]; omega

theorem lst_set {listed : Array Bool} {i k : Nat} (hi : i < listed.size) : lst (listed.setIfInBounds i true) k = (if k = i then true else lst listed k) := by
  unfold lst
  simp only [Array.getD_eq_getD_getElem?, Array.getElem?_setIfInBounds]
  by_cases h : i = k
  · subst h; simp [hi]
  · rw [if_neg h, if_neg (fun hh => h hh.symm)]

theorem ready_spec {ops : Array Oper} {listed : Array Bool} (hsz : listed.size = ops.size) {i : Nat} (h : i ∈ Region.ready .any ops listed) : ∃ o, ops[i]? = some o ∧ i < ops.size ∧ lst listed i = false ∧ Ready (lst listed) o := by
  unfold Region.ready at h
  rw [List.mem_filter, List.mem_range] at h
  obtain ⟨h1, h2⟩ := h
  rw [Array.getElem?_eq_getElem h1] at h2
  simp only [Option.map_some, Option.getD_some, Bool.and_eq_true, Bool.not_eq_true'] at h2
  refine ⟨ops[i], Array.getElem?_eq_getElem h1, h1, ?_, ?_⟩
  · have h3 := h2.1
    unfold lst
    rw [Array.getD_eq_getD_getElem?, Array.getElem?_eq_getElem (by omega)] at h3 ⊢
    simpa using h3
  · intro e he hb
    have := (Array.all_eq_true'.1 h2.2) e (by simpa using he)
    rw [hb] at this
    simpa [lst] using this
theorem ready_nil {ops : Array Oper} {listed : Array Bool} (hsz : listed.size = ops.size) (h : Region.ready .any ops listed = []) {i : Nat} {o : Oper} (ho : ops[i]? = some o) (hr : Ready (lst listed) o) : lst listed i = true := by
  have h1 : i < ops.size := (Array.getElem?_eq_some_iff.1 ho).1
  cases hl : lst listed i with
  | true => rfl
  | false =>
    exfalso
    have : i ∈ Region.ready .any ops listed := by
      unfold Region.ready
      rw [List.mem_filter, List.mem_range]
      refine ⟨h1, ?_⟩
      rw [ho]
      simp only [Option.map_some, Option.getD_some, Bool.and_eq_true, Bool.not_eq_true']
      constructor
      · unfold lst at hl
        rw [Array.getD_eq_getD_getElem?, Array.getElem?_eq_getElem (by omega)] at hl ⊢
        simpa using hl
      · rw [Array.all_eq_true']
        intro e he
        cases hb : Region.binds .any e with
        | false => rfl
        | true =>
          have := hr e (by simpa using he) hb
          simpa [lst] using this
    rw [h] at this
    cases this

/-- What is read may be read whenever it may come up. -/
def ReadsP (P : Program) (D : Tab) (call : KCall) (round : KRound) (all : List Oper) (hs : List H) (tr : List (T AV × AV)) : Prop :=
  ∀ i o tm v, all[i]? = some o → tr[i]? = some (tm, v) → kdOf o = .read → ∀ m h, hs[m]? = some h →
    countC (fun j => (((masks all)[i]?).getD 0).testBit j) 0 all ≤ m → m ≤ countC (fun j => !((((masks all)[j]?).getD 0).testBit i)) 0 all → ∃ h', evStep1 P D call round all o tm h = some (v, h')
theorem readsOk_P {P : Program} {D : Tab} {call : KCall} {round : KRound} {all : List Oper} {hs : List H} {tr : List (T AV × AV)} (hrd : readsOk P D call round all (masks all) hs 0 all tr = true) : ReadsP P D call round all hs tr := by
  intro i o tm v ho ht hk m h hm h1 h2
  have hra := readsOk_spec rfl hrd i o tm v (Nat.zero_le _) ho ht hk
  exact readAt_spec hra m h hm (by rw [Nat.zero_add]; exact h1) (by rw [Nat.zero_add]; exact h2)

section draws
variable {P : Program} {D : Tab} {call : KCall} {round : KRound} {all : List Oper} {s sf : St} {tr : List (T AV × AV)} {hs : List H} {σ : Nat → St} {v : Nat → AV}

theorem TraceR.keep (t : TraceR P D call round all 0 s sf tr hs σ v) : ∀ i, i ≤ all.length → (σ i).tm = tS all v s.tm (fun _ => true) i ∧ (σ i).nt = s.nt ∧ (σ i).df = s.df
  | 0, _ => by rw [t.first]; exact ⟨rfl, rfl, rfl⟩
  | i + 1, h => by
    obtain ⟨h1, h2, h3⟩ := t.keep i (by omega)
    obtain ⟨o, h', q1, q2, q3, q4⟩ := t.step i (by omega) (by omega)
    obtain ⟨p1, p2, p3, p5⟩ := St.put_spec q3
    refine ⟨?_, by rw [p3, h2], by rw [p2, h3]⟩
    simp only [tS, q1, Option.bind_some, if_true]
    cases hd : o.dst with
    | none => rw [hd] at q3; obtain ⟨_, _, _, p5⟩ := St.put_spec q3; simp only at p5 ⊢; rw [p5, h1]
    | some d => rw [hd] at q3; obtain ⟨_, _, _, p5⟩ := St.put_spec q3; simp only at p5 ⊢; rw [p5.2, h1]

/-- What comes up may be done now: it looks at what it would have looked at in the order of the text. -/
theorem draw_step (t : TraceR P D call round all 0 s sf tr hs σ v) (hst : staticOk all = true) (hrd : ReadsP P D call round all (s.h :: hs) tr)
    {S S' : Nat → Bool} (hcl : Closed all S) {i : Nat} {o : Oper} (ho : all[i]? = some o) (hi : S i = false) (hr : Ready S o) (hS' : ∀ k, S' k = if k = i then true else S k) {Hm : H} (hH : (s.h :: hs)[Stg all S]? = some Hm) :
    ∃ s', evStep P D call round all o { tm := tS all v s.tm S all.length, nt := s.nt, df := s.df, h := Hm } = some s' ∧ s'.nt = s.nt ∧ s'.df = s.df ∧ (∀ x, s'.tm.get x = (tS all v s.tm S' all.length).get x) ∧ (s.h :: hs)[Stg all S']? = some s'.h ∧ Closed all S' := by
  obtain ⟨hed, hpr⟩ := bif_true hst
  have hil : i < all.length := (List.getElem?_eq_some_iff.1 ho).1
  obtain ⟨o', h', q1, q2, q3, q4⟩ := t.step i (Nat.zero_le _) hil
  rw [ho] at q1; cases q1
  obtain ⟨k1, k2, k3⟩ := t.keep i (Nat.le_of_lt hil)
  have hml := masks_length all
  have hmk : ∀ j, j < all.length → ∃ m, (masks all)[j]? = some m := fun j hj => ⟨_, List.getElem?_eq_getElem (by omega)⟩
  -- who is ahead, who is behind
  have ahead : ∀ k ok, k < i → all[k]? = some ok → need all ok o = true → S k = true := fun k ok hk hok hn => by
    obtain ⟨m, hm⟩ := hmk i hil
    exact masks_ok all i o m ho hm S hcl hr k (pairsOk_spec hpr hk hok ho hm hn)
  have behind : ∀ k ok, i < k → all[k]? = some ok → need all o ok = true → S k = false := fun k ok hk hok hn => by
    cases hsk : S k with
    | false => rfl
    | true =>
      obtain ⟨m, hm⟩ := hmk k (List.getElem?_eq_some_iff.1 hok).1
      have := masks_ok all k ok m hok hm S hcl (fun e h1 h2 => hcl k ok hok hsk e h1 h2) i (pairsOk_spec hpr hk ho hok hm hn)
      rw [hi] at this; cases this
  have hlook : ∀ x ∈ looks all o, (tS all v s.tm S all.length).get x = (σ i).tm.get x := fun x hx => by
    rw [k1, tS_later (i := i) all.length (Nat.le_of_lt hil) fun k h1 h2 ok hok hd => ?_]
    · refine tS_same i fun k hk ok hok hd => ?_
      exact ahead k ok hk hok (need_read hd hx)
    · by_cases hki : k = i
      · subst hki; exact hi
      · exact behind k ok (by omega) hok (need_anti hd hx)
  have hback : ∀ k, (∀ ok, all[k]? = some ok → ¬ k = i) → S' k = S k := fun k hk => by
    rw [hS']
    by_cases hki : k = i
    · exact absurd hki (hk o (by rw [hki]; exact ho))
    · rw [if_neg hki]
  have hcl' : Closed all S' := fun j oj hj hsj e he hb => by
    rw [hS'] at hsj ⊢
    by_cases hei : e.on = i
    · rw [if_pos hei]
    · rw [if_neg hei]
      by_cases hji : j = i
      · subst hji
        rw [ho] at hj; cases hj
        exact hr e he hb
      · rw [if_neg hji] at hsj
        exact hcl j oj hj hsj e he hb
  -- the value, and the heap behind it
  have hchi : ch all i = isChain o := by simp [ch, ho]
  have hnext : ∃ h2, evStep1 P D call round all o (tS all v s.tm S all.length) Hm = some (v i, h2) ∧ (s.h :: hs)[Stg all S']? = some h2 := by
    rw [evStep1_congr hlook]
    cases hc : isChain o with
    | true =>
      have e1 : Stg all S = cntU all (fun _ => true) i := by
        unfold Stg
        rw [cntU_stop all (i := i) all.length (Nat.le_of_lt hil) fun k h1 h2 hck => ?_]
        · refine cntU_congr all i fun k hk hck => ?_
          have hkl : k < all.length := by omega
          have hok := List.getElem?_eq_getElem hkl
          refine ahead k _ hk hok (need_chain ?_ hc)
          simpa [ch, hok] using hck
        · by_cases hki : k = i
          · subst hki; exact hi
          · have hok := List.getElem?_eq_getElem h2
            refine behind k _ (by omega) hok (need_chain hc ?_)
            simpa [ch, hok] using hck
      have e2 : Stg all S' = cntU all (fun _ => true) (i + 1) := by
        unfold Stg
        rw [cntU_stop all (i := i + 1) all.length hil fun k h1 h2 hck => ?_]
        · refine cntU_congr all (i + 1) fun k hk hck => ?_
          rw [hS']
          by_cases hki : k = i
          · rw [if_pos hki]
          · rw [if_neg hki]
            have hkl : k < all.length := by omega
            have hok := List.getElem?_eq_getElem hkl
            refine ahead k _ (by omega) hok (need_chain ?_ hc)
            simpa [ch, hok] using hck
        · rw [hS', if_neg (by omega)]
          have hok := List.getElem?_eq_getElem h2
          refine behind k _ (by omega) hok (need_chain hc ?_)
          simpa [ch, hok] using hck
      have g1 := t.stage i (Nat.zero_le _) (Nat.le_of_lt hil)
      have g2 := t.stage (i + 1) (Nat.zero_le _) hil
      simp only [cntU, Nat.sub_zero] at g1
      rw [show cntU all (fun _ => true) 0 = 0 from rfl, Nat.sub_zero] at g2
      rw [e1, g1] at hH
      cases hH
      obtain ⟨p1, p2, p3, p5⟩ := St.put_spec q3
      refine ⟨h', q2, ?_⟩
      rw [e2, g2, p1]
    | false =>
      have e2 : Stg all S' = Stg all S := by
        unfold Stg
        refine cntU_congr all all.length fun k hk hck => ?_
        rw [hS']
        by_cases hki : k = i
        · subst hki; rw [hchi, hc] at hck; cases hck
        · rw [if_neg hki]
      rw [e2]
      have hfl : ∀ h2, evStep1 P D call round all o (σ i).tm Hm = some (v i, h2) → ∃ h2, evStep1 P D call round all o (σ i).tm Hm = some (v i, h2) ∧ (s.h :: hs)[Stg all S]? = some h2 := fun h2 he => by
        have : h2 = Hm := kd_float hc he
        subst this
        exact ⟨h2, he, hH⟩
      cases hk : kdOf o with
      | chain => simp [isChain, hk] at hc
      | pure => exact hfl _ (kd_pure hk q2 Hm)
      | read =>
        obtain ⟨h2, he⟩ := hrd i o _ _ ho q4 hk (Stg all S) Hm hH (by
          rw [countC_all]
          refine cntU_mono all _ fun k hkl hck hb => ?_
          obtain ⟨m, hm⟩ := hmk i hil
          rw [hm] at hb
          exact masks_ok all i o m ho hm S hcl hr k hb) (by
          rw [countC_all]
          refine cntU_mono all _ fun k hkl hck hb => ?_
          obtain ⟨m, hm⟩ := hmk k hkl
          have hok := List.getElem?_eq_getElem hkl
          rw [hm]
          simp only [Option.getD_some]
          cases hbit : m.testBit i with
          | false => rfl
          | true =>
            have := masks_ok all k _ m hok hm S hcl (fun e h1 h2 => hcl k _ hok hb e h1 h2) i hbit
            rw [hi] at this; cases this)
        exact hfl h2 he
  obtain ⟨h2, r1, r3⟩ := hnext
  have hput : ∃ s', St.put { tm := tS all v s.tm S all.length, nt := s.nt, df := s.df, h := Hm } o.dst (v i) h2 = some s' ∧ s'.nt = s.nt ∧ s'.df = s.df ∧ s'.h = h2 ∧ (∀ x, s'.tm.get x = (tS all v s.tm S' all.length).get x) := by
    obtain ⟨p1, p2, p3, p5⟩ := St.put_spec q3
    unfold St.put
    cases hd : o.dst with
    | none =>
      refine ⟨_, rfl, rfl, rfl, rfl, fun x => ?_⟩
      refine tS_same all.length fun k hk ok hok hdk => ?_
      rw [hS']
      by_cases hki : k = i
      · subst hki; rw [ho] at hok; cases hok; rw [hd] at hdk; cases hdk
      · rw [if_neg hki]
    | some d =>
      rw [hd] at q3
      obtain ⟨_, _, _, p5⟩ := St.put_spec q3
      have hlt : d < s.nt := by rw [← k2]; exact p5.1
      have hble : Nat.ble s.nt d = false := by
        cases hb : Nat.ble s.nt d with
        | false => rfl
        | true => exact absurd (Nat.lt_of_lt_of_le hlt (Nat.le_of_ble_eq_true hb)) (Nat.lt_irrefl _)
      simp only [hble, cond_false]
      refine ⟨_, rfl, rfl, rfl, rfl, fun x => ?_⟩
      simp only [T.get_set]
      by_cases hxd : x = d
      · subst hxd
        rw [if_pos rfl, tS_later (i := i + 1) all.length hil fun k h1 h2 ok hok hdk => ?_]
        · simp only [tS, hS', if_true, ho, Option.bind_some, hd, T.get_set]
        · rw [hS', if_neg (by omega)]
          exact behind k ok (by omega) hok (need_write hd hdk)
      · rw [if_neg hxd]
        refine tS_same all.length fun k hk ok hok hdk => ?_
        rw [hS']
        by_cases hki : k = i
        · subst hki; rw [ho] at hok; cases hok; rw [hd] at hdk; cases hdk; exact absurd rfl hxd
        · rw [if_neg hki]
  obtain ⟨s', z1, z2, z3, z4, z5⟩ := hput
  refine ⟨s', ?_, z2, z3, z5, by rw [z4]; exact r3, hcl'⟩
  unfold evStep
  rw [r1]
  exact z1

theorem TR.same {ρ : Emb} {tm tm' : T AV} {nt : Nat} {ts : Array Value} (h : TR ρ tm nt ts) (he : ∀ x, tm.get x = tm'.get x) : TR ρ tm' nt ts := ⟨h.1, fun i u hu => h.2 i u (by rw [he]; exact hu)⟩

theorem draw_all (hD : D.Ok2 P) (hcall : ∀ d, CallOK P (call d)) (hround : ∀ d, RoundOK P (round d)) {F : Fence} (hF : F = Fence.wide ∨ ∃ l, F = Fence.wide.inRound l) {ops : Array Oper} (hall : ops.toList = all)
    (t : TraceR P D call round all 0 s sf tr hs σ v) (hst : staticOk all = true) (hrd : ReadsP P D call round all (s.h :: hs) tr)
    {N0 : Nat} {ρ0 : Emb} {w0 : World} (hf : Fresh ρ0 s.h.nx sf.h.nx) (Q : Exit → Act → World → Prop)
    (hQ : ∀ ρ' a' w', ActR ρ' sf a' → Post N0 ρ0 s.h.get s.h.nx w0 ρ' sf.h.get sf.h.nx w' → Q .normal a' w') :
    ∀ (fuel : Nat) (listed : Array Bool) (ρ : Emb) (a : Act) (w : World) (Hm : H), listed.size = ops.size → Closed all (lst listed) → un (lst listed) all.length ≤ fuel → TR ρ (tS all v s.tm (lst listed) all.length) s.nt a.tmps → DR ρ s.df a.defers →
      (s.h :: hs)[Stg all (lst listed)]? = some Hm → Post N0 ρ0 s.h.get s.h.nx w0 ρ Hm.get Hm.nx w → wpAnyIn F 0 P .any ops Q fuel listed a w := by
  intro fuel
  obtain ⟨hed, hpr⟩ := bif_true hst
  have hfin : ∀ (listed : Array Bool) (ρ : Emb) (a : Act) (w : World) (Hm : H), (∀ i, i < all.length → lst listed i = true) → TR ρ (tS all v s.tm (lst listed) all.length) s.nt a.tmps → DR ρ s.df a.defers →
      (s.h :: hs)[Stg all (lst listed)]? = some Hm → Post N0 ρ0 s.h.get s.h.nx w0 ρ Hm.get Hm.nx w → Q .normal a w := fun listed ρ a w Hm hl h1 h2 h3 h4 => by
    have e1 : Stg all (lst listed) = cntU all (fun _ => true) all.length := cntU_congr all _ fun k hk _ => hl k hk
    have g := t.stage all.length (Nat.zero_le _) (Nat.le_refl _)
    rw [show cntU all (fun _ => true) 0 = 0 from rfl, Nat.sub_zero, t.last] at g
    rw [e1, g] at h3
    cases h3
    obtain ⟨k1, k2, k3⟩ := t.keep all.length (Nat.le_refl _)
    rw [t.last] at k1 k2 k3
    refine hQ ρ a w ⟨?_, by rw [k3]; exact h2⟩ h4
    rw [k1, k2]
    exact h1.same fun x => tS_same all.length fun k hk _ _ _ => hl k hk
  have hdone : ∀ (listed : Array Bool), listed.size = ops.size → Region.ready .any ops listed = [] → ∀ i, i < all.length → lst listed i = true := fun listed hsz hnil i => by
    induction i using Nat.strongRecOn with
    | ind i ih =>
      intro hi
      have hok := List.getElem?_eq_getElem hi
      refine ready_nil hsz hnil (o := all[i]) (by rw [← Array.getElem?_toList, hall]; exact hok) fun e he hb => ?_
      have := edgesOk_spec all 0 rfl hed i _ (Nat.zero_le _) hok e he hb
      exact ih e.on this (by omega)
  have hsize : ops.size = all.length := by rw [← hall]; simp
  induction fuel with
  | zero =>
    intro listed ρ a w Hm hsz hcl hu h1 h2 h3 h4
    have hl := un_zero (Nat.le_zero.1 hu)
    refine ⟨?_, hfin listed ρ a w Hm hl h1 h2 h3 h4⟩
    cases hr : Region.ready .any ops listed with
    | nil => rfl
    | cons x xs =>
      obtain ⟨o, q1, q2, q3, q4⟩ := ready_spec hsz (i := x) (by rw [hr]; simp)
      rw [hl x (by omega)] at q3; cases q3
  | succ fuel ih =>
    intro listed ρ a w Hm hsz hcl hu h1 h2 h3 h4
    refine ⟨fun hnil => hfin listed ρ a w Hm (hdone listed hsz hnil) h1 h2 h3 h4, fun i hi => ?_⟩
    obtain ⟨o, q1, q2, q3, q4⟩ := ready_spec hsz hi
    have hok : all[i]? = some o := by rw [← hall, Array.getElem?_toList]; exact q1
    have hset : ∀ k, lst (listed.setIfInBounds i true) k = if k = i then true else lst listed k := fun k => lst_set (by omega)
    obtain ⟨s', z1, z2, z3, z4, z5, z6⟩ := draw_step t hst hrd hcl hok q3 q4 hset h3
    unfold wpOpIn
    rw [q1]
    simp only
    have hfr : Fresh ρ Hm.nx s'.h.nx := by
      exact fun id x => (h4.fresh (m := sf.h.nx) hf) id x
    have hact : ActR ρ { tm := tS all v s.tm (lst listed) all.length, nt := s.nt, df := s.df, h := Hm } a := ⟨h1, h2⟩
    rw [← hall] at z1 hact
    refine evStep_ok hD hcall hround hF (s := { tm := tS ops.toList v s.tm (lst listed) ops.toList.length, nt := s.nt, df := s.df, h := Hm }) h4.sim hact z1 hfr _ Q fun ρ' a' w' ha' hp' => ?_
    refine ih _ ρ' a' w' s'.h (by simp [hsz]) z6 ?_ ?_ ?_ z5 (h4.trans hp')
    · have := un_more (S' := lst (listed.setIfInBounds i true)) q3 (by rw [hset, if_pos rfl]) (fun k hk => by rw [hset, if_neg hk]) all.length
      rw [if_pos (by omega)] at this
      omega
    · have := ha'.tm
      rw [z2] at this
      exact this.same z4
    · have := ha'.df
      rw [z3] at this
      exact this
end draws

theorem draw_region {P : Program} {D : Tab} (hD : D.Ok2 P) (hm : P.follows .mixedOrders = true) {call : KCall} {round : KRound} (hcall : ∀ d, CallOK P (call d)) (hround : ∀ d, RoundOK P (round d)) {F : Fence} (hF : F = Fence.wide ∨ ∃ l, F = Fence.wide.inRound l) {id : Nat} {ops : Array Oper}
    {s sf : St} {tr : List (T AV × AV)} {hs : List H} (hst : staticOk ops.toList = true) (htr : evTr P D call round ops.toList ops.toList s = some (tr, hs, sf)) (hrd : ReadsP P D call round ops.toList (s.h :: hs) tr)
    {N0 : Nat} {ρ : Emb} {a : Act} {w : World} (sim : Sim N0 ρ s.h.get w) (ha : ActR ρ s a) (hf : Fresh ρ s.h.nx sf.h.nx) (Q : Exit → Act → World → Prop)
    (hQ : ∀ ρ' a' w', ActR ρ' sf a' → Post N0 ρ s.h.get s.h.nx w ρ' sf.h.get sf.h.nx w' → Q .normal a' w') : (Code.region id ops true).wpIn F 0 P Q a w := by
  obtain ⟨σ, v, t⟩ := evTr_spec ops.toList 0 rfl (Nat.zero_le _) htr
  refine wpIn_region_any hm ?_
  have hnone : ∀ k, lst (Array.replicate ops.size false) k = false := fun k => by
    unfold lst
    rw [Array.getD_eq_getD_getElem?, Array.getElem?_replicate]
    split <;> rfl
  have hzero : ∀ n, cntU ops.toList (lst (Array.replicate ops.size false)) n = 0 := fun n => by
    induction n with
    | zero => rfl
    | succ n ih => simp [cntU, ih, hnone]
  have htz : ∀ n, tS ops.toList v s.tm (lst (Array.replicate ops.size false)) n = s.tm := fun n => by
    induction n with
    | zero => rfl
    | succ n ih => simp [tS, ih, hnone]
  have hun : ∀ n, un (lst (Array.replicate ops.size false)) n = n := fun n => by
    induction n with
    | zero => rfl
    | succ n ih => simp [un, ih, hnone]
  refine draw_all hD hcall hround hF rfl t hst hrd hf Q hQ ops.size _ ρ a _ s.h (by simp) (fun j o _ h => by rw [hnone] at h; cases h) ?_ ?_ ha.df ?_ (Post.drew sim _)
  · rw [hun]; simp
  · rw [htz]; exact ha.tm
  · unfold Stg; rw [hzero]; rfl
theorem evDraw_ok {P : Program} {D : Tab} (hD : D.Ok2 P) (hm : P.follows .mixedOrders = true) : DrawOK P (evDraw P D) := by
  intro call round hcall hround F hF id ops s s' he
  unfold evDraw at he
  obtain ⟨hst, he⟩ : staticOk ops.toList = true ∧ (match evTr P D call round ops.toList ops.toList s with
      | some (tr, hs, sf) => bif readsOk P D call round ops.toList (masks ops.toList) (s.h :: hs) 0 ops.toList tr then some sf else none
      | none => none) = some s' := by
    cases hq : staticOk ops.toList with
    | true => rw [hq] at he; exact ⟨rfl, he⟩
    | false => rw [hq] at he; cases he
  split at he
  case h_2 => cases he
  rename_i tr hs sf htr
  obtain ⟨hrd, he⟩ : readsOk P D call round ops.toList (masks ops.toList) (s.h :: hs) 0 ops.toList tr = true ∧ sf = s' := by
    cases hq : readsOk P D call round ops.toList (masks ops.toList) (s.h :: hs) 0 ops.toList tr with
    | true => rw [hq] at he; simp only [cond_true, Option.some.injEq] at he; exact ⟨rfl, he⟩
    | false => rw [hq] at he; cases he
  subst he
  exact fun N0 ρ a w sim ha hf Q hQ => draw_region hD hm hcall hround hF hst htr (readsOk_P hrd) sim ha hf Q hQ
end Go.Rx
