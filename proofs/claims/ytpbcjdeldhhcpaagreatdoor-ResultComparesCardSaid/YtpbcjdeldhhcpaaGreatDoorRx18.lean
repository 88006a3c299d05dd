import Derived.Test.YtpbcjdeldhhcpaaGreatDoorRx17
set_option linter.unusedVariables false
set_option linter.unusedSimpArgs false
set_option linter.unusedSectionVars false
noncomputable section
namespace Go.Rx
open Go

/-! ### 33. Code in pieces: from one state that is written down to the next -/
/-- What is known behind code that began in s: as CodeOK says it. -/
def Runs (P : Program) (rd : Option Nat) (c : Code) (s : St) (e : Ex) (s' : St) : Prop :=
  ∀ N0 ρ a w F, Mode ρ rd F → Sim N0 ρ s.h.get w → ActR ρ s a → Fresh ρ s.h.nx s'.h.nx → ∀ Q : Exit → Act → World → Prop,
    (∀ ρ' a' w', ActR ρ' s' a' → Post N0 ρ s.h.get s.h.nx w ρ' s'.h.get s'.h.nx w' → Q (exr e) a' w') → c.wpIn F 0 P Q a w

structure St.Le (s' s : St) : Prop where
  tm : ∀ i v, s'.tm.get i = some v → s.tm.get i = some v
  nt : s'.nt = s.nt
  df : s'.df = s.df
  hp : ∀ i o, s'.h.get i = some o → s.h.get i = some o
  nx : s.h.nx ≤ s'.h.nx

theorem Runs.weaken {P : Program} {rd : Option Nat} {c : Code} {s s1 s2 : St} {e : Ex} (h : Runs P rd c s e s1) (hle : s2.Le s1) : Runs P rd c s e s2 := by
  intro N0 ρ a w F hm sim ha hf Q hQ
  refine h N0 ρ a w F hm sim ha (fun i x => hf i x) Q fun ρ' a' w' ha' hp => ?_
  refine hQ ρ' a' w' ⟨⟨by rw [hle.nt]; exact ha'.tm.1, fun i v hv => ha'.tm.2 i v (hle.tm i v hv)⟩, by rw [hle.df]; exact ha'.df⟩ (hp.weaken hle.hp hle.nx)

theorem Runs.seq {P : Program} {rd : Option Nat} {c d : Code} {s s1 s2 : St} {e : Ex} (h : Runs P rd c s .normal s1) (h' : Runs P rd d s1 e s2) : Runs P rd (.seq c d) s e s2 := by
  intro N0 ρ a w F hm sim ha hf Q hQ
  refine wpIn_seq ?_
  refine h N0 ρ a w F hm sim ha (fun i p => hf i p) _ fun ρ' a' w' ha' hp => ?_
  exact h' N0 ρ' a' w' F (hm.mono hp.ext) hp.sim ha' (hp.fresh hf) Q fun ρ'' a'' w'' ha'' hp' => hQ ρ'' a'' w'' ha'' (hp.trans hp')

def cL : Code → Code
  | .seq a _ => a
  | c => c
def cR : Code → Code
  | .seq _ b => b
  | c => c
def isSeq : Code → Bool
  | .seq _ _ => true
  | _ => false
theorem Runs.both {P : Program} {rd : Option Nat} {c : Code} {s s1 s2 : St} {e : Ex} (hc : isSeq c = true) (h : Runs P rd (cL c) s .normal s1) (h' : Runs P rd (cR c) s1 e s2) : Runs P rd c s e s2 := by
  cases c <;> first
    | exact Runs.seq h h'
    | exact Bool.noConfusion (show false = true from hc)

/-! A state, written down. -/
def T.ofList {α : Type} : List (Nat × α) → T α
  | [] => .nil
  | (i, v) :: l => (T.ofList l).set i (some v)
theorem T.ofList_get {α : Type} : ∀ {l : List (Nat × α)} {i : Nat} {v : α}, (T.ofList l).get i = some v → (i, v) ∈ l
  | [], i, v, h => by simp [T.ofList, T.get_nil] at h
  | (j, u) :: l, i, v, h => by
    rw [T.ofList, T.get_set] at h
    by_cases hij : i = j
    · rw [if_pos hij] at h
      cases h
      subst hij
      exact List.mem_cons_self
    · rw [if_neg hij] at h
      exact List.mem_cons_of_mem _ (T.ofList_get h)
structure Sl where
  tm : List (Nat × AV)
  nt : Nat
  df : List Nat
  hp : List (Nat × AO)
  nx : Nat
def Sl.h (s : Sl) : H := { hp := T.ofList s.hp, nx := s.nx, hide := [], lo := 0, log := [] }
def Sl.st (s : Sl) : St := { tm := T.ofList s.tm, nt := s.nt, df := s.df, h := s.h }
theorem H.get_clear (t : T AO) (nx : Nat) (lo : Nat) (log : List Nat) (i : Nat) : H.get { hp := t, nx := nx, hide := [], lo := lo, log := log } i = t.get i := rfl

def natsEq : List Nat → List Nat → Bool
  | [], [] => true
  | a :: l, b :: m => bif Nat.beq a b then natsEq l m else false
  | _, _ => false
theorem natsEq_eq : ∀ {a b : List Nat}, natsEq a b = true → a = b
  | [], [], _ => rfl
  | a :: l, b :: m, h => by
    rw [natsEq] at h
    obtain ⟨h1, h2⟩ := bif_true h
    rw [Nat.eq_of_beq_eq_true h1, natsEq_eq h2]
def entsEq : List (AV × AV × Nat) → List (AV × AV × Nat) → Bool
  | [], [] => true
  | (k, v, n) :: l, (k', v', n') :: m => bif AV.beq k k' then bif AV.beq v v' then bif Nat.beq n n' then entsEq l m else false else false else false
  | _, _ => false
theorem entsEq_eq : ∀ {a b : List (AV × AV × Nat)}, entsEq a b = true → a = b
  | [], [], _ => rfl
  | (k, v, n) :: l, (k', v', n') :: m, h => by
    rw [entsEq] at h
    obtain ⟨h1, h⟩ := bif_true h
    obtain ⟨h2, h⟩ := bif_true h
    obtain ⟨h3, h4⟩ := bif_true h
    rw [AV.beq_eq h1, AV.beq_eq h2, Nat.eq_of_beq_eq_true h3, entsEq_eq h4]
def AO.beq : AO → AO → Bool
  | .cells a o, .cells b o' => bif AV.beqs a b then o == o' else false
  | .map e c, .map e' c' => bif entsEq e e' then Nat.beq c c' else false
  | .siter s p, .siter s' p' => bif decide (s.data.toList = s'.data.toList) then Nat.beq p p' else false
  | .defs, .defs => true
  | _, _ => false
theorem AO.beq_eq : ∀ {a b : AO}, AO.beq a b = true → a = b
  | .cells a o, .cells b o', h => by
    rw [AO.beq] at h
    obtain ⟨h1, h2⟩ := bif_true h
    rw [AV.beqs_eq h1, eq_of_beq h2]
  | .map e c, .map e' c', h => by
    rw [AO.beq] at h
    obtain ⟨h1, h2⟩ := bif_true h
    rw [entsEq_eq h1, Nat.eq_of_beq_eq_true h2]
  | .siter s p, .siter s' p', h => by
    rw [AO.beq] at h
    obtain ⟨h1, h2⟩ := bif_true h
    have h1 := of_decide_eq_true h1
    rw [Nat.eq_of_beq_eq_true h2]
    cases s; cases s'
    congr 2
    exact Array.ext' h1
  | .defs, .defs, _ => rfl

def Ex.beq : Ex → Ex → Bool
  | .normal, .normal => true
  | .ret, .ret => true
  | .exit i, .exit j => Nat.beq i j
  | _, _ => false
theorem Ex.beq_eq : ∀ {a b : Ex}, Ex.beq a b = true → a = b
  | .normal, .normal, _ => rfl
  | .ret, .ret, _ => rfl
  | .exit i, .exit j, h => by rw [Ex.beq] at h; rw [Nat.eq_of_beq_eq_true h]

def tmIn (t : T AV) : List (Nat × AV) → Bool
  | [] => true
  | (i, v) :: l => bif (match t.get i with | some u => AV.beq u v | none => false) then tmIn t l else false
def hpIn (h : H) : List (Nat × AO) → Bool
  | [] => true
  | (i, v) :: l => bif (match h.get i with | some u => AO.beq u v | none => false) then hpIn h l else false
theorem tmIn_spec {t : T AV} : ∀ {l : List (Nat × AV)}, tmIn t l = true → ∀ i v, (i, v) ∈ l → t.get i = some v
  | (j, u) :: l, h, i, v, hm => by
    rw [tmIn] at h
    obtain ⟨h1, h2⟩ := bif_true h
    rcases List.mem_cons.1 hm with he | hm
    · cases he
      split at h1
      · rename_i u' hu; rw [hu, AV.beq_eq h1]
      · cases h1
    · exact tmIn_spec h2 i v hm
theorem hpIn_spec {t : H} : ∀ {l : List (Nat × AO)}, hpIn t l = true → ∀ i v, (i, v) ∈ l → t.get i = some v
  | (j, u) :: l, h, i, v, hm => by
    rw [hpIn] at h
    obtain ⟨h1, h2⟩ := bif_true h
    rcases List.mem_cons.1 hm with he | hm
    · cases he
      split at h1
      · rename_i u' hu; rw [hu, AO.beq_eq h1]
      · cases h1
    · exact hpIn_spec h2 i v hm
def Sl.in (t : Sl) (s : St) : Bool :=
  bif Nat.beq t.nt s.nt then bif natsEq t.df s.df then bif Nat.ble s.h.nx t.nx then bif tmIn s.tm t.tm then hpIn s.h t.hp else false else false else false else false
theorem Sl.le {t : Sl} {s : St} (h : t.in s = true) : t.st.Le s := by
  unfold Sl.in at h
  obtain ⟨h1, h⟩ := bif_true h
  obtain ⟨h2, h⟩ := bif_true h
  obtain ⟨h3, h⟩ := bif_true h
  obtain ⟨h4, h5⟩ := bif_true h
  refine ⟨fun i v hv => tmIn_spec h4 i v (T.ofList_get hv), Nat.eq_of_beq_eq_true h1, natsEq_eq h2, fun i o ho => ?_, Nat.le_of_ble_eq_true h3⟩
  exact hpIn_spec h5 i o (T.ofList_get ho)

def chk (r : Option (Ex × St)) (e : Ex) (t : Sl) : Bool :=
  match r with
  | some (e', s') => bif Ex.beq e' e then t.in s' else false
  | none => false
theorem chk_spec {r : Option (Ex × St)} {e : Ex} {t : Sl} (h : chk r e t = true) : ∃ s', r = some (e, s') ∧ t.st.Le s' := by
  unfold chk at h
  split at h
  · rename_i e' s'
    obtain ⟨h1, h2⟩ := bif_true h
    exact ⟨s', by rw [Ex.beq_eq h1], Sl.le h2⟩
  · cases h

/-- One piece, by evaluation. -/
theorem Runs.ev {P : Program} {D : Tab} (hD : D.Ok2 P) (hm : P.follows .mixedOrders = true) {ext : FuncId → Option CallF} (hext : ExtOK P ext) {fn n m : Nat} {rd : Option Nat} {c : Code} {s : Sl} {e : Ex} {t : Sl}
    (h : chk (evCode P D (evDraw P D) (evCall P D (evDraw P D) ext n) fn m rd c s.st) e t = true) : Runs P rd c s.st e t.st := by
  obtain ⟨s', h1, h2⟩ := chk_spec h
  have := evCode_ok hD (evDraw_ok hD hm) (evCall_ok hD (evDraw_ok hD hm) hext n) fn m rd c s.st e s' h1
  exact Runs.weaken this h2

/-! A call. -/
/-- What is known of a call with such arguments on such a heap: as CallOK says it. -/
def CRuns (P : Program) (f : FuncId) (args : List AV) (h : H) (v : AV) (h' : H) : Prop :=
  ∀ N0 ρ w vs, Sim N0 ρ h.get w → VRs ρ args vs → Fresh ρ h.nx h'.nx →
    CallsIn Fence.wide 0 P f vs.toArray w (fun e w' => ∃ ρ' x, e = .returned x ∧ VR ρ' v x ∧ Post N0 ρ h.get h.nx w ρ' h'.get h'.nx w')

def argL : Nat → List AV → List (Nat × AV) → List (Nat × AV)
  | _, [], l => l
  | i, a :: as, l => argL (i + 1) as ((i, a) :: l)
theorem argL_T : ∀ (as : List AV) (i : Nat) (l : List (Nat × AV)), T.ofList (argL i as l) = argT i as (T.ofList l)
  | [], _, _ => rfl
  | a :: as, i, l => by rw [argL, argT, argL_T as]; rfl

theorem evDefs_nx : ∀ {df : List Nat} {a b : H}, evDefs df a = some b → a.nx = b.nx
  | [], a, b, h => by simp only [evDefs, Option.some.injEq] at h; rw [h]
  | i :: df, a, b, h => by
    rw [evDefs] at h
    split at h
    · exact evDefs_nx (a := a.put i none) h
    · cases h
theorem evEnd_nx {D : Tab} {fn : Func} {s : St} {v : AV} {h' : H} (hend : evEnd D fn s = some (v, h')) : s.h.nx = h'.nx := by
  unfold evEnd at hend
  split at hend
  case h_2 => simp at hend
  rename_i h1 hdef
  have := evDefs_nx hdef
  cases hr : evResults D { s with h := h1 } fn.results.toList with
  | none => rw [hr] at hend; simp at hend
  | some l =>
    rw [hr] at hend
    have h2 : h1 = h' := by
      match l, hend with
      | [], hend => simp only [Option.some.injEq, Prod.mk.injEq] at hend; exact hend.2
      | [x], hend => simp only [Option.some.injEq, Prod.mk.injEq] at hend; exact hend.2
      | x :: y :: t, hend => simp only [Option.some.injEq, Prod.mk.injEq] at hend; exact hend.2
    rw [← h2]; exact this

theorem Runs.call {P : Program} {D : Tab} (hD : D.Ok2 P) {f : FuncId} {fn : Func} {c : Code} {args : List AV} {s s' : St} {e : Ex} {v : AV} {h' : H} (hfn : D.fn f = some fn) (hc : fn.body = some c)
    (h1 : s.tm = argT 0 args .nil) (h2 : s.nt = args.length + (fn.ntmps - args.length)) (h3 : s.df = []) (hr : Runs P none c s e s') (hcase : e = .normal ∨ e = .ret) (hend : evEnd D fn s' = some (v, h')) : CRuns P f args s.h v h' := by
  intro N0 ρ w vs sim hargs hf
  have hlen := hargs.length
  have hsize : (vs.toArray ++ Array.replicate (fn.ntmps - vs.toArray.size) undef).size = args.length + (fn.ntmps - args.length) := by simp [hlen]
  have hact : ActR ρ s { tmps := vs.toArray ++ Array.replicate (fn.ntmps - vs.toArray.size) undef, defers := [] } := by
    refine ⟨?_, by rw [h3]; exact .nil⟩
    rw [h1, h2]
    refine argT_ok 0 hargs ⟨hsize, fun i v hv => by simp [T.get_nil] at hv⟩ (by show 0 + args.length ≤ args.length + (fn.ntmps - args.length); omega) (fun j v hv => ?_)
    rw [Nat.zero_add, Array.getD_eq_getD_getElem?, Array.getElem?_append_left (by simpa using (List.getElem?_eq_some_iff.1 hv).1)]
    simp [hv]
  refine callsIn_of_wp_marks (hD.fn f fn hfn) hc trivial ?_
  refine hr N0 ρ _ w Fence.wide rfl sim hact (fun i a => hf i a) _ fun ρ' a' w' ha' hp => ?_
  have hl := evEnd_ok hD.toOk hend hp.sim ha' (R := fun e w'' => ∃ ρ' x, e = .returned x ∧ VR ρ' v x ∧ Post N0 ρ s.h.get s.h.nx w ρ' h'.get h'.nx w'') (fun x w'' hx hp' => ⟨ρ', x, rfl, hx, hp.trans hp'⟩)
  rcases hcase with rfl | rfl <;> exact hl

def begins (args : List AV) (fn : Func) (hp : List (Nat × AO)) (nx : Nat) : Sl := { tm := argL 0 args [], nt := args.length + (fn.ntmps - args.length), df := [], hp := hp, nx := nx }
theorem Runs.call_lit {P : Program} {D : Tab} (hD : D.Ok2 P) {f : FuncId} {fn : Func} {c : Code} {args : List AV} {hp : List (Nat × AO)} {nx : Nat} {s' : St} {v : AV} {h' : H} (hfn : D.fn f = some fn) (hc : fn.body = some c)
    (hr : Runs P none c (begins args fn hp nx).st .ret s') (hend : evEnd D fn s' = some (v, h')) : CRuns P f args (begins args fn hp nx).h v h' :=
  Runs.call hD hfn hc (argL_T args 0 []) rfl rfl hr (.inr rfl) hend

/-- A closed call: in whatever world. -/
theorem CRuns.closed {P : Program} {f : FuncId} {v : AV} {h h' : H} (hh : h.hp = .nil) (r : CRuns P f [] h v h') (w : World) : Calls P f #[] w (fun e w' => ∃ ρ x, e = .returned x ∧ VR ρ v x ∧ RowKit.Below w.heap.size w w') := by
  have hg : ∀ i, h.get i = none := fun i => by unfold H.get; rw [hh]; cases hid h.hide i <;> rfl
  have sim : Sim w.heap.size ⟨fun _ => none, fun _ => none⟩ h.get w := ⟨Nat.le_refl _, fun i o ho => (by rw [hg] at ho; cases ho), fun i j o o' e e' ho _ _ _ _ _ _ => (by rw [hg] at ho; cases ho), fun b o hb => by cases hb⟩
  have := r w.heap.size ⟨fun _ => none, fun _ => none⟩ w [] sim .nil (fun _ _ => rfl)
  refine callsIn_wide.1 (CallsIn.mono this ?_)
  rintro e w' ⟨ρ', x, rfl, hv, hp⟩
  exact ⟨ρ', x, rfl, hv, hp.below sim⟩
end Go.Rx
