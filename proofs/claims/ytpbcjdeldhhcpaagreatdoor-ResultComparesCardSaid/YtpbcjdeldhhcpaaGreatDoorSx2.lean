import Derived.Test.YtpbcjdeldhhcpaaGreatDoorSx1
set_option linter.unusedVariables false
set_option linter.unusedSimpArgs false
set_option linter.unusedSectionVars false
set_option linter.unusedVariables false
noncomputable section
namespace Go.Rx
open Go

/-! ### S3. Code with a set of outcomes, up to names -/
structure RWp (P : Program) (pin : Nat) (rd : Option Nat) (c : Code) (s : St) (K : Ex → St → Prop) : Prop where
  run : ∀ N0 ρ a w F, Mode ρ rd F → Sim N0 ρ s.h.get w → ActR ρ s a → (∀ id, s.h.nx ≤ id → ρ id = none) → ∀ Q : Exit → Act → World → Prop,
    (∀ e s' ρ' a' w', K e s' → Mode ρ' rd F → ActR ρ' s' a' → (∀ id, s'.h.nx ≤ id → ρ' id = none) → RP pin N0 ρ s.h.get w ρ' s'.h.get w' → Q (exr e) a' w') → c.wpIn F 0 P Q a w

theorem DR.ren {ρ ρ' : Emb} : ∀ {a : List Nat} {b : List Deferred}, DR ρ a b → (∀ d ∈ a, ρ' d = ρ d) → DR ρ' a b
  | _, _, .nil, _ => .nil
  | _, _, .cons h t, hd => .cons (by rw [hd _ List.mem_cons_self]; exact h) (DR.ren t fun d hm => hd d (List.mem_cons_of_mem _ hm))

section
variable {P : Program} {pin : Nat} {rd : Option Nat} {c d b : Code} {s : St} {K K' : Ex → St → Prop}
theorem RWp.mono (h : RWp P pin rd c s K) (hk : ∀ e s', K e s' → K' e s') : RWp P pin rd c s K' := ⟨fun N0 ρ a w F hm sim ha hf Q hQ =>
  h.run N0 ρ a w F hm sim ha hf Q fun e s' ρ' a' w' hks => hQ e s' ρ' a' w' (hk e s' hks)⟩
/-- Code whose outcome is known. -/
theorem RWp.of_runs {e : Ex} {s' : St} (h : ∀ N0 ρ a w F, Mode ρ rd F → Sim N0 ρ s.h.get w → ActR ρ s a → Fresh ρ s.h.nx s'.h.nx → ∀ Q : Exit → Act → World → Prop,
    (∀ ρ' a' w', ActR ρ' s' a' → Post N0 ρ s.h.get s.h.nx w ρ' s'.h.get s'.h.nx w' → Q (exr e) a' w') → c.wpIn F 0 P Q a w) (hk : K e s') : RWp P pin rd c s K := ⟨fun N0 ρ a w F hm sim ha hf Q hQ =>
  h N0 ρ a w F hm sim ha hf Q fun ρ' a' w' ha' hp => hQ e s' ρ' a' w' hk (hm.mono hp.ext) ha' (hp.fresh (m := 0) hf) hp.rp⟩
/-- A state under other names. -/
theorem RWp.ren {s2 : St} {g : Nat → Nat} {F : Nat → Prop} (r : Ren pin rd s s2 g F) (h : RWp P pin rd c s2 K) : RWp P pin rd c s K := .mk fun N0 ρ a w Fe hm sim ha hf Q hQ => by
  have hrp := r.rp sim
  refine h.run N0 ⟨fun j => ρ (g j), fzOf ρ F s.h.get w⟩ a w Fe ?_ hrp.sim ?_ (fun id hid => hf _ (r.fresh id hid)) Q fun e s' ρ' a' w' hk hm' ha' hf' hp => hQ e s' ρ' a' w' hk hm' ha' hf' (hrp.trans hp)
  · cases rd with
    | none => exact hm
    | some i =>
      obtain ⟨e, h1, h2⟩ := hm
      exact ⟨e, by show ρ (g i) = some e; rw [r.rd i rfl]; exact h1, h2⟩
  · refine ⟨⟨by rw [r.nt]; exact ha.tm.1, fun i v2 hv => ?_⟩, ?_⟩
    · obtain ⟨v, h1, h2⟩ := r.tm i v2 hv
      exact CV.vr sim _ (fun _ _ h => h) h2 (ha.tm.2 i v h1)
    · rw [r.df]
      exact ha.df.ren fun d hd => by show ρ (g d) = ρ d; rw [r.gdf d hd]
theorem RWp.skip (h : K .normal s) : RWp P pin rd .skip s K := ⟨fun N0 ρ a w F hm sim ha hf Q hQ => wpIn_skip (hQ .normal s ρ a w h hm ha hf (.refl sim))⟩
theorem RWp.ret (h : K .ret s) : RWp P pin rd .ret s K := ⟨fun N0 ρ a w F hm sim ha hf Q hQ => wpIn_ret (hQ .ret s ρ a w h hm ha hf (.refl sim))⟩
theorem RWp.exit {id : Nat} (h : K (.exit id) s) : RWp P pin rd (.exit id) s K := ⟨fun N0 ρ a w F hm sim ha hf Q hQ => wpIn_exit (hQ (.exit id) s ρ a w h hm ha hf (.refl sim))⟩
theorem RWp.label {id : Nat} (h : K .normal s) : RWp P pin rd (.label id) s K := ⟨fun N0 ρ a w F hm sim ha hf Q hQ => wpIn_label (hQ .normal s ρ a w h hm ha hf (.refl sim))⟩
theorem RWp.seq (h : RWp P pin rd c s fun e s' => match e with
    | .normal => RWp P pin rd d s' K
    | e => K e s') : RWp P pin rd (.seq c d) s K := .mk fun N0 ρ a w F hm sim ha hf Q hQ => by
  refine wpIn_seq (h.run N0 ρ a w F hm sim ha hf _ fun e s' ρ' a' w' hk hm' ha' hf' hp => ?_)
  cases e with
  | normal => exact hk.run N0 ρ' a' w' F hm' hp.sim ha' hf' Q fun e2 s2 ρ2 a2 w2 hk2 hm2 ha2 hf2 hp2 => hQ e2 s2 ρ2 a2 w2 hk2 hm2 ha2 hf2 (hp.trans hp2)
  | exit i => exact hQ _ s' ρ' a' w' hk hm' ha' hf' hp
  | ret => exact hQ _ s' ρ' a' w' hk hm' ha' hf' hp
theorem RWp.cond {x : Operand} {t : Bool} (hx : evalO s.tm x = .bool t) (h : RWp P pin rd (bif t then c else d) s K) : RWp P pin rd (.cond x c d) s K := .mk fun N0 ρ a w F hm sim ha hf Q hQ => by
  have h1 := ofVal_eval ha.tm x
  rw [hx] at h1
  generalize hxe : a.eval x = xv at h1
  cases h1
  refine wpIn_cond hxe ?_
  have := h.run N0 ρ a w F hm sim ha hf Q hQ
  cases t <;> exact this
theorem RWp.block {id : Nat} (h : RWp P pin rd b s fun e s' => match e with
    | .exit i => if i = id then K .normal s' else K (.exit i) s'
    | e => K e s') : RWp P pin rd (.block id b) s K := .mk fun N0 ρ a w F hm sim ha hf Q hQ => by
  refine wpIn_block (h.run N0 ρ a w F hm sim ha hf _ fun e s' ρ' a' w' hk hm' ha' hf' hp => ?_)
  cases e with
  | normal => exact hQ .normal s' ρ' a' w' hk hm' ha' hf' hp
  | ret => exact hQ .ret s' ρ' a' w' hk hm' ha' hf' hp
  | exit i =>
    simp only at hk
    by_cases hi : i = id
    · subst hi
      rw [if_pos rfl] at hk
      simp only [exr, Exit.inBlock, if_true]
      exact hQ .normal s' ρ' a' w' hk hm' ha' hf' hp
    · rw [if_neg hi] at hk
      simp only [exr, Exit.inBlock, if_neg hi]
      exact hQ (.exit i) s' ρ' a' w' hk hm' ha' hf' hp
theorem RWp.scope (h : RWp P pin none b s K) : RWp P pin none (.scope b) s K := .mk fun N0 ρ a w F hm sim ha hf Q hQ => by
  have hF : F = Fence.wide := hm
  subst hF
  rw [wpIn_wide]
  refine wp_scope_straight ?_
  rw [← wpIn_wide (n := 0)]
  refine h.run N0 ρ a w _ hm sim ha hf _ fun e s' ρ' a' w' hk hm' ha' hf' hp => ?_
  have := hQ e s' ρ' a' w' hk hm' ha' hf' hp
  cases e <;> exact this
/-- A loop: each round leaves it, or is nearer to the end. -/
theorem RWp.loop {I : Nat → St → Prop} (h : ∀ n s, I n s → RWp P pin rd b s fun e s' => match e with
    | .normal => ∃ m s2 g F, m < n ∧ I m s2 ∧ Ren pin rd s' s2 g F
    | e => K e s') {n : Nat} {s : St} (hi : I n s) : RWp P pin rd (.loop b) s K := by
  have key : ∀ (k n : Nat) (s : St), n ≤ k → I n s → ∀ N0 ρ a w F, Mode ρ rd F → Sim N0 ρ s.h.get w → ActR ρ s a → (∀ id, s.h.nx ≤ id → ρ id = none) → ∀ Q : Exit → Act → World → Prop,
      (∀ e s' ρ' a' w', K e s' → Mode ρ' rd F → ActR ρ' s' a' → (∀ id, s'.h.nx ≤ id → ρ' id = none) → RP pin N0 ρ s.h.get w ρ' s'.h.get w' → Q (exr e) a' w') → Code.roundsIn F 0 P b Q (k + 1) a w := by
    intro k
    induction k with
    | zero =>
      intro n s hn hi N0 ρ a w F hm sim ha hf Q hQ
      rw [roundsIn_succ]
      refine (h n s hi).run N0 ρ a w F hm sim ha hf _ fun e s' ρ' a' w' hk hm' ha' hf' hp => ?_
      cases e with
      | normal => obtain ⟨m, _, _, _, hmn, _⟩ := hk; omega
      | exit i => exact hQ _ s' ρ' a' w' hk hm' ha' hf' hp
      | ret => exact hQ _ s' ρ' a' w' hk hm' ha' hf' hp
    | succ k ih =>
      intro n s hn hi N0 ρ a w F hm sim ha hf Q hQ
      rw [roundsIn_succ]
      refine (h n s hi).run N0 ρ a w F hm sim ha hf _ fun e s' ρ' a' w' hk hm' ha' hf' hp => ?_
      cases e with
      | normal =>
        obtain ⟨m, s2, g, Fz, hmn, him, hren⟩ := hk
        have hrp := hren.rp hp.sim
        refine ih m s2 (by omega) him N0 ⟨fun j => ρ' (g j), fzOf ρ' Fz s'.h.get w'⟩ a' w' F ?_ hrp.sim ?_ (fun id hid => hf' _ (hren.fresh id hid)) Q fun e2 s3 ρ2 a2 w2 hk2 hm2 ha2 hf2 hp2 => hQ e2 s3 ρ2 a2 w2 hk2 hm2 ha2 hf2 ((hp.trans hrp).trans hp2)
        · cases rd with
          | none => exact hm'
          | some i =>
            obtain ⟨e, h1, h2⟩ := hm'
            exact ⟨e, by show ρ' (g i) = some e; rw [hren.rd i rfl]; exact h1, h2⟩
        · refine ⟨⟨by rw [hren.nt]; exact ha'.tm.1, fun i v2 hv => ?_⟩, ?_⟩
          · obtain ⟨v, h1, h2⟩ := hren.tm i v2 hv
            exact CV.vr hp.sim _ (fun _ _ h => h) h2 (ha'.tm.2 i v h1)
          · rw [hren.df]
            exact ha'.df.ren fun d hd => by show ρ' (g d) = ρ' d; rw [hren.gdf d hd]
      | exit i => exact hQ _ s' ρ' a' w' hk hm' ha' hf' hp
      | ret => exact hQ _ s' ρ' a' w' hk hm' ha' hf' hp
  exact ⟨fun N0 ρ a w F hm sim ha hf Q hQ => wpIn_loop_rounds _ (key n n s (Nat.le_refl _) hi N0 ρ a w F hm sim ha hf Q hQ)⟩
end

/-! ### S4. Calls -/
/-- A call of a function whose arguments and result bear no names: the heap stays as it is told. -/
def PureC (P : Program) (f : FuncId) (args : List AV) (v : AV) : Prop := ∀ h, CRuns P f args h v h

/-- What a function hands back, frozen. -/
def Fz (h : H) (v0 v : AV) : Prop := CV (fun j => j) (fun _ => True) h.get v0 v ∧ v.free = true

def start (fn : Func) (args : List (Nat × Option AV)) (h : H) : St := { tm := .list args, nt := args.length + (fn.ntmps - args.length), df := [], h := h }
def numL : Nat → List AV → List (Nat × Option AV)
  | _, [] => []
  | i, a :: as => (i, some a) :: numL (i + 1) as
theorem numL_length : ∀ (l : List AV) (i : Nat), (numL i l).length = l.length
  | [], _ => rfl
  | _ :: l, i => by simp [numL, numL_length l]
theorem numL_look : ∀ (l : List AV) (i j : Nat) (v : AV), lookL (numL i l) j = some v → i ≤ j ∧ l[j - i]? = some v
  | [], i, j, v, h => by simp [numL, lookL] at h
  | a :: l, i, j, v, h => by
    rw [numL, lookL_cons] at h
    by_cases hj : j = i
    · subst hj; rw [if_pos rfl] at h; simp at h; subst h; simp
    · rw [if_neg hj] at h
      obtain ⟨h1, h2⟩ := numL_look l (i + 1) j v h
      refine ⟨by omega, ?_⟩
      rw [show j - i = (j - (i + 1)) + 1 by omega]
      simpa using h2
def H0 : H := { hp := .list [], nx := 0, hide := [], lo := 0, log := [] }
theorem H0_get (i : Nat) : H0.get i = none := rfl

theorem start_act {ρ : Emb} {fn : Func} {args : List AV} {vs : List Value} {h : H} (hargs : VRs ρ args vs) : ActR ρ (start fn (numL 0 args) h) { tmps := vs.toArray ++ Array.replicate (fn.ntmps - vs.toArray.size) undef, defers := [] } := by
  have hlen := hargs.length
  refine ⟨⟨by simp [start, numL_length, hlen], fun i v hv => ?_⟩, .nil⟩
  obtain ⟨_, h1⟩ := numL_look args 0 i v hv
  rw [Nat.sub_zero] at h1
  obtain ⟨y, hy, hr⟩ := hargs.get i v h1
  have hi : i < vs.length := (List.getElem?_eq_some_iff.1 hy).1
  rw [Array.getD_eq_getD_getElem?, Array.getElem?_append_left (by simpa using hi)]
  simp only [List.getElem?_toArray, hy, Option.getD_some]
  exact hr

theorem PureC.of_rwp {P : Program} {D : Tab} (hD : D.Ok2 P) {f : FuncId} {fn : Func} {c : Code} {args : List AV} {v : AV} (hfn : D.fn f = some fn) (hc : fn.body = some c) (hfree : AV.frees args = true)
    (hr : RWp P 0 none c (start fn (numL 0 args) H0) fun e s' => (e = .normal ∨ e = .ret) ∧ ∃ v0 h2, evEnd D fn s' = some (v0, h2) ∧ Fz h2 v0 v) : PureC P f args v := by
  intro h N0 ρ w vs sim hargs hf
  refine callsIn_of_wp_marks (hD.fn f fn hfn) hc trivial ?_
  have sim0 : Sim w.heap.size ⟨fun _ => none, ρ.fz⟩ H0.get w := ⟨Nat.le_refl _, fun i o ho => (by cases ho), fun i j o o' e e' ho _ _ _ _ _ _ => (by cases ho), fun b o hb => ⟨(sim.fz b o hb).1, fun ⟨id, x, e, h1, _⟩ => (by cases h1)⟩⟩
  have hargs0 : VRs ⟨fun _ => none, ρ.fz⟩ args vs := VRs.free (ρ := ρ) (ρ' := ⟨fun _ => none, ρ.fz⟩) (fun _ _ h => h) hargs hfree
  refine hr.run w.heap.size ⟨fun _ => none, ρ.fz⟩ _ w Fence.wide rfl sim0 (start_act hargs0) (fun _ _ => rfl) _ fun e s' ρ' a' w' hk hm' ha' hf' hp => ?_
  obtain ⟨hcase, v0, h2, hend, hcv, hvf⟩ := hk
  have hl := evEnd_ok hD.toOk hend hp.sim ha' (R := fun e w'' => ∃ ρ2 x, e = .returned x ∧ VR ρ2 v x ∧ Post N0 ρ h.get h.nx w ρ2 h.get h.nx w'') (fun x w'' hx hp' => by
    have q := hp.trans (hp'.rp (pin := 0))
    have hx2 := CV.vr q.sim ρ'.f (fun j e hj => hj) hcv hx
    refine ⟨⟨ρ.f, fzOf ρ' (fun _ => True) h2.get w''⟩, x, rfl, VR.free (ρ := ⟨ρ'.f, fzOf ρ' (fun _ => True) h2.get w''⟩) (ρ' := ⟨ρ.f, fzOf ρ' (fun _ => True) h2.get w''⟩) (fun _ _ h => h) hx2 hvf, ?_⟩
    have hno : ∀ b, owned ⟨fun _ => none, ρ.fz⟩ H0.get b → False := fun b ⟨id, x, e, h1, _⟩ => by cases h1
    have hbig : ∀ b o, fzOf ρ' (fun _ => True) h2.get w'' b = some o → ρ.fz b = some o ∨ w.heap.size ≤ b := fun b o hb => by
      rcases fzOf_spec hb with h1 | ⟨_, id, vals, e, _, h3, h4, h5⟩
      · rcases q.fzn b o h1 with h2 | h2 | h2
        · exact .inl h2
        · exact (hno b h2).elim
        · exact .inr h2
      · rcases q.foot b ⟨id, _, e, h3, rfl, h4, h5⟩ with h6 | h6
        · exact (hno b h6).elim
        · exact .inr h6
    have hown : ∀ b, owned ρ h.get b → b < w.heap.size := fun b ⟨id, o, e, h1, _, h3, h4⟩ => by
      obtain ⟨e', he', ho⟩ := sim.obj id o h1
      rw [h3] at he'; cases he'
      rw [← h4]; exact ho.lt
    have hle : ρ.le ⟨ρ.f, fzOf ρ' (fun _ => True) h2.get w''⟩ := ⟨fun _ _ h => h, fun b o hb => fzOf_old (q.fz b o hb)⟩
    refine ⟨hle, fun _ _ h => .inl h, ⟨Nat.le_trans sim.base q.size, fun id o ho => ?_, sim.inj, fun b o hb => ⟨?_, fun ho => ?_⟩⟩, Nat.le_refl _, q.os, q.tape, q.output, q.size, fun b hb _ => q.keep b hb (hno b), fun b hb => .inl hb, fun b o hb => ?_⟩
    · obtain ⟨e, he, hor⟩ := sim.obj id o ho
      exact ⟨e, he, hor.same hle (q.keep _ hor.lt (hno _))⟩
    · rcases fzOf_spec hb with h1 | ⟨h1, _⟩
      · exact (q.sim.fz b o h1).1
      · exact h1
    · rcases hbig b o hb with h1 | h1
      · exact (sim.fz b o h1).2 ho
      · have := hown b ho; omega
    · rcases hbig b o hb with h1 | h1
      · exact .inl h1
      · exact .inr (.inr h1))
  rcases hcase with rfl | rfl <;> exact hl

mutual
/-- Nothing in memory stands behind it. -/
def AV.scal : AV → Bool
  | .any => true
  | .bool _ => true
  | .int _ _ => true
  | .str _ => true
  | .nilp => true
  | .nils => true
  | .nilm => true
  | .nilf => true
  | .func _ a b => AV.scals a && AV.scals b
  | .agg cs => AV.scals cs
  | .tuple vs => AV.scals vs
  | _ => false
def AV.scals : List AV → Bool
  | [] => true
  | a :: as => a.scal && AV.scals as
end
mutual
theorem VR.scal {ρ ρ' : Emb} : ∀ {a : AV} {v : Value}, VR ρ a v → a.scal = true → VR ρ' a v
  | _, _, .any v, _ => .any v
  | _, _, .bool b, _ => .bool b
  | _, _, .int k n, _ => .int k n
  | _, _, .str s, _ => .str s
  | _, _, .nilp, _ => .nilp
  | _, _, .nils, _ => .nils
  | _, _, .nilm, _ => .nilm
  | _, _, .func fn hf' hc, hf => by
    simp only [AV.scal, Bool.and_eq_true] at hf
    exact .func fn (VRs.scal hf' hf.1) (VRs.scal hc hf.2)
  | _, _, .nilf, _ => .nilf
  | _, _, .agg h, hf => .agg (VRs.scal h (by simpa [AV.scal] using hf))
  | _, _, .tuple h, hf => .tuple (VRs.scal h (by simpa [AV.scal] using hf))
  | _, _, .ptr _ _, hf => by simp [AV.scal] at hf
  | _, _, .slice _ _ _ _ _ _ _, hf => by simp [AV.scal] at hf
  | _, _, .slice0 _, hf => by simp [AV.scal] at hf
  | _, _, .map _, hf => by simp [AV.scal] at hf
  | _, _, .yield _, hf => by simp [AV.scal] at hf
  | _, _, .view _ _ _ _ _ _ _ _ _, hf => by simp [AV.scal] at hf
  | _, _, .view0 _, hf => by simp [AV.scal] at hf
  | _, _, .viewN, hf => by simp [AV.scal] at hf
  | _, _, .vptr _ _ _ _, hf => by simp [AV.scal] at hf
theorem VRs.scal {ρ ρ' : Emb} : ∀ {a : List AV} {v : List Value}, VRs ρ a v → AV.scals a = true → VRs ρ' a v
  | _, _, .nil, _ => .nil
  | _, _, .cons h t, hf => by
    simp only [AV.scals, Bool.and_eq_true] at hf
    exact .cons (VR.scal h hf.1) (VRs.scal t hf.2)
end

/-- A call to which memory of one's own is lent: it is only read, and nothing of it comes back. -/
theorem CRuns.lend {P : Program} {f : FuncId} {args args2 : List AV} {h : H} {v : AV} (hp : PureC P f args2 v) (hc : CVs (fun j => j) (fun _ => True) h.get args args2) (hf : AV.frees args2 = true) (hs : v.scal = true) : CRuns P f args h v h := by
  intro N0 ρ w vs sim hargs hfr
  have h1 := CVs.vr sim ρ.f (fun j e hj => hj) hc hargs
  have h2 : VRs ⟨fun _ => none, fzOf ρ (fun _ => True) h.get w⟩ args2 vs := VRs.free (ρ := ⟨ρ.f, fzOf ρ (fun _ => True) h.get w⟩) (ρ' := ⟨fun _ => none, fzOf ρ (fun _ => True) h.get w⟩) (fun _ _ h => h) h1 hf
  have sim0 : Sim w.heap.size ⟨fun _ => none, fzOf ρ (fun _ => True) h.get w⟩ H0.get w := ⟨Nat.le_refl _, fun i o ho => (by cases ho), fun i j o o' e e' ho _ _ _ _ _ _ => (by cases ho), fun b o hb => ⟨by
    rcases fzOf_spec hb with h1 | ⟨h1, _⟩
    · exact (sim.fz b o h1).1
    · exact h1, fun ⟨id, x, e, h1, _⟩ => (by cases h1)⟩⟩
  refine CallsIn.mono (hp H0 w.heap.size _ w vs sim0 h2 (fun _ _ => rfl)) ?_
  rintro e w' ⟨ρ', x, rfl, hv, q⟩
  have hno : ∀ b, owned ⟨fun _ => none, fzOf ρ (fun _ => True) h.get w⟩ H0.get b → False := fun b ⟨id, x, e, h1, _⟩ => by cases h1
  refine ⟨ρ, x, rfl, hv.scal hs, ⟨Emb.le_refl _, fun _ _ h => .inl h, ⟨Nat.le_trans sim.base q.size, fun id o ho => ?_, sim.inj, fun b o hb => ?_⟩, Nat.le_refl _, q.os, q.tape, q.output, q.size, fun b hb _ => q.keep b hb (hno b), fun b hb => .inl hb, fun b o hb => .inl hb⟩⟩
  · obtain ⟨e, he, hor⟩ := sim.obj id o ho
    exact ⟨e, he, hor.same (Emb.le_refl _) (q.keep _ hor.lt (hno _))⟩
  · obtain ⟨k1, k2⟩ := sim.fz b o hb
    have hlt : b < w.heap.size := (Array.getElem?_eq_some_iff.1 k1).1
    exact ⟨(q.keep b hlt (hno b)).trans k1, k2⟩

/-- A call without arguments that is known over an empty heap. -/
theorem PureC.closed {P : Program} {f : FuncId} {v : AV} {h0 h1 : H} (hh : ∀ i, h0.get i = none) (r : CRuns P f [] h0 v h1) (hs : v.scal = true) : PureC P f [] v := by
  intro h N0 ρ w vs sim hargs hfr
  cases hargs
  have hno : ∀ (ρ : Emb) b, owned ρ h0.get b → False := fun ρ b ⟨id, x, e, h1, _⟩ => by rw [hh] at h1; cases h1
  have sim0 : Sim w.heap.size ⟨fun _ => none, ρ.fz⟩ h0.get w := ⟨Nat.le_refl _, fun i o ho => (by rw [hh] at ho; cases ho), fun i j o o' e e' ho _ _ _ _ _ _ => (by rw [hh] at ho; cases ho), fun b o hb => ⟨(sim.fz b o hb).1, fun ho => hno _ b ho⟩⟩
  refine CallsIn.mono (r w.heap.size _ w [] sim0 .nil (fun _ _ => rfl)) ?_
  rintro e w' ⟨ρ', x, rfl, hv, q⟩
  refine ⟨ρ, x, rfl, hv.scal hs, ⟨Emb.le_refl _, fun _ _ h => .inl h, ⟨Nat.le_trans sim.base q.size, fun id o ho => ?_, sim.inj, fun b o hb => ?_⟩, Nat.le_refl _, q.os, q.tape, q.output, q.size, fun b hb _ => q.keep b hb (hno _ b), fun b hb => .inl hb, fun b o hb => .inl hb⟩⟩
  · obtain ⟨e, he, hor⟩ := sim.obj id o ho
    exact ⟨e, he, hor.same (Emb.le_refl _) (q.keep _ hor.lt (hno _ _))⟩
  · obtain ⟨k1, k2⟩ := sim.fz b o hb
    have hlt : b < w.heap.size := (Array.getElem?_eq_some_iff.1 k1).1
    exact ⟨(q.keep b hlt (hno _ b)).trans k1, k2⟩
end Go.Rx
