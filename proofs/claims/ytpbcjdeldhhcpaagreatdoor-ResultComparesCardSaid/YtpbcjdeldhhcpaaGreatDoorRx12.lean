import Derived.Test.YtpbcjdeldhhcpaaGreatDoorRx11
import Derived.LoopNIn
import Derived.Scope
set_option linter.unusedVariables false
set_option linter.unusedSimpArgs false
set_option linter.unusedSectionVars false
noncomputable section
namespace Go.Rx
open Go

/-! ### 26. Code -/
def exr : Ex → Exit
  | .normal => .normal
  | .exit id => .exit id
  | .ret => .ret

/-- What is asked of the way in which regions that draw are gone through. -/
def DrawOK (P : Program) (draws : DrawF) : Prop :=
  ∀ (call : KCall) (round : KRound), (∀ d, CallOK P (call d)) → (∀ d, RoundOK P (round d)) → ∀ F, (F = Fence.wide ∨ ∃ l, F = Fence.wide.inRound l) → ∀ id ops s s', draws call round ops.toList s = some s' →
    ∀ N0 ρ a w, Sim N0 ρ s.h.get w → ActR ρ s a → Fresh ρ s.h.nx s'.h.nx → ∀ Q : Exit → Act → World → Prop,
      (∀ ρ' a' w', ActR ρ' s' a' → Post N0 ρ s.h.get s.h.nx w ρ' s'.h.get s'.h.nx w' → Q .normal a' w') → (Code.region id ops true).wpIn F 0 P Q a w

def Mode (ρ : Emb) (rd : Option Nat) (F : Fence) : Prop :=
  match rd with
  | none => F = Fence.wide
  | some id => ∃ e, ρ id = some e ∧ F = Fence.wide.inRound e.blk
theorem Mode.or {ρ : Emb} {rd : Option Nat} {F : Fence} (h : Mode ρ rd F) : F = Fence.wide ∨ ∃ l, F = Fence.wide.inRound l := by
  cases rd with
  | none => exact .inl h
  | some id => obtain ⟨e, _, h⟩ := h; exact .inr ⟨_, h⟩
theorem Mode.mono {ρ ρ' : Emb} {rd : Option Nat} {F : Fence} (h : Mode ρ rd F) (hle : ρ.le ρ') : Mode ρ' rd F := by
  cases rd with
  | none => exact h
  | some id => obtain ⟨e, h1, h2⟩ := h; exact ⟨e, hle _ _ h1, h2⟩

/-- What is asked of the evaluation of code with n rounds of fuel. -/
def CodeOK (P : Program) (ev : Option Nat → Code → St → Option (Ex × St)) : Prop :=
  ∀ rd c s e s', ev rd c s = some (e, s') → ∀ N0 ρ a w F, Mode ρ rd F → Sim N0 ρ s.h.get w → ActR ρ s a → Fresh ρ s.h.nx s'.h.nx → ∀ Q : Exit → Act → World → Prop,
    (∀ ρ' a' w', ActR ρ' s' a' → Post N0 ρ s.h.get s.h.nx w ρ' s'.h.get s'.h.nx w' → Q (exr e) a' w') → c.wpIn F 0 P Q a w

theorem setAll_ok {ρ : Emb} {nt : Nat} : ∀ {ps : List Tmp} {as : List AV} {vs : List Value} {tm tm' : T AV} {ts : Array Value}, setAll nt ps as tm = some tm' → VRs ρ as vs → TR ρ tm nt ts →
    TR ρ tm' nt ((ps.zip vs).foldl (fun ts (x : Tmp × Value) => ts.setIfInBounds x.1 x.2) ts) ∧ ps.length = vs.length
  | [], [], _, tm, tm', ts, h, hv, ht => by
    simp only [setAll, Option.some.injEq] at h; subst h
    cases hv
    exact ⟨ht, rfl⟩
  | p :: ps, a :: as, _, tm, tm', ts, h, .cons (v := v) (vs := vs) h1 hv, ht => by
    rw [setAll] at h
    cases q : Nat.ble nt p with
    | true => simp [q] at h
    | false =>
      simp only [q, cond_false] at h
      have hp : p < nt := by
        rcases Nat.lt_or_ge p nt with h1 | h1
        · exact h1
        · rw [Nat.ble_eq_true_of_le h1] at q; cases q
      obtain ⟨k1, k2⟩ := setAll_ok h hv (ht.put hp h1)
      exact ⟨k1, by simp [k2]⟩
  | [], _ :: _, _, _, _, _, h, _, _ => by simp [setAll] at h
  | _ :: _, [], _, _, _, _, h, _, _ => by simp [setAll] at h

theorem H.put_get_self (h : H) (id : Nat) (o : AO) {o' : AO} (hg : h.get id = some o') : (h.put id (some o)).get id = some o := by
  unfold H.get at hg ⊢
  cases q : hid h.hide id with
  | true => simp [q] at hg
  | false =>
    have : hid (h.put id (some o)).hide id = false := q
    simp only [this, cond_false]
    simp [H.put, T.get_set]

/-- The record of a loop is overwritten. -/
theorem Post.loop {N0 : Nat} {ρ : Emb} {h : H} {w : World} (s : Sim N0 ρ h.get w) {id : Nat} {e : E} {st st' : LoopState} {p p' : Option Code} {f f' : FuncId} {tm : T AV} {nt : Nat} {ps : List Tmp} {asg body : Code} {d : Nat}
    (hg : h.get id = some (.loop st p f tm nt ps asg body d)) (he : ρ id = some e) :
    ∃ r : Loop, w.heap[e.blk]? = some (.loop r) ∧ r.state = st ∧ r.pending = p ∧ TR ρ tm nt r.tmps ∧ r.params = ps.toArray ∧ r.assign = asg ∧ r.body = body ∧ (∃ ed, ρ d = some ed ∧ r.defers = ed.blk) ∧
      Post N0 ρ h.get h.nx w ρ (h.put id (some (.loop st' p' f' tm nt ps asg body d))).get (h.put id (some (.loop st' p' f' tm nt ps asg body d))).nx (w.putObj e.blk (.loop { r with state := st', pending := p' })) := by
  obtain ⟨e', he', ho⟩ := s.obj _ _ hg
  rw [he] at he'; cases he'
  have hlt := ho.lt
  obtain ⟨ts, ed, fn', h1, h2, h3, h4⟩ := ho
  refine ⟨_, h3, rfl, rfl, h1, rfl, rfl, rfl, ⟨ed, h2, rfl⟩, ?_⟩
  exact (Post.block (nx := h.nx) s hg he rfl hlt (o' := .loop st' p' f' tm nt ps asg body d) rfl _ fun w' hw' => ⟨ts, ed, fn', h1, h2, hw', h4⟩).weaken (h.put_sub _ _) (Nat.le_refl _)

theorem VR.ret_bool {ρ : Emb} (b : Bool) : VR ρ (.bool b) (.bool b) := .bool b

theorem evRound_ok {P : Program} {ev : Option Nat → Code → St → Option (Ex × St)} (hev : CodeOK P ev) : RoundOK P (evRound ev) := by
  intro id args h v h' he N0 ρ w vs e sim hid hargs hf
  unfold evRound at he
  split at he
  case h_2 => simp at he
  rename_i st p f tm nt ps asg body d hg
  split at he
  case h_2 => simp at he
  rename_i tm' hset
  split at he
  case h_2 => simp at he
  rename_i s1 hasg
  split at he
  case h_2 => simp at he
  rename_i p1 f1 t1 n1 q1 a1 b1 d1 hg1
  split at he
  case h_2 => simp at he
  rename_i ex s2 hbody
  split at he
  case h_2 => simp at he
  rename_i st2 p2 f2 t2 n2 q2 a2 b2 d2 hg2 hdf
  obtain ⟨r, r1, r2, r3, r4, r5, r6, r7, r8, _⟩ := Post.loop (st' := .ready) (p' := none) (f' := f) sim hg hid
  have m2 := hev _ _ _ _ _ hasg
  have m4 := hev _ _ _ _ _ hbody
  have hnx : s2.h.nx = h'.nx := by
    cases ex <;> simp only [Option.some.injEq, Prod.mk.injEq] at he <;> (obtain ⟨_, rfl⟩ := he; rfl)
  obtain ⟨tr1, tr2⟩ := setAll_ok hset hargs r4
  have hsz : vs.toArray.size = r.params.size := by rw [r5]; simp [tr2]
  refine ⟨r.fn, _, r.assign, r.body, run_yield r1 hsz, ?_⟩
  refine roundIn_of_wpIn trivial ?_
  have htm : (r.params.zip vs.toArray).foldl (fun (tmps : Array Value) (x : Tmp × Value) => tmps.setIfInBounds x.1 x.2) r.tmps = (ps.zip vs).foldl (fun ts (x : Tmp × Value) => ts.setIfInBounds x.1 x.2) r.tmps := by
    rw [r5, ← Array.foldl_toList]
    simp
  have hstart : ActR ρ { tm := tm', nt := nt, df := [], h := h } { tmps := (r.params.zip vs.toArray).foldl (fun (tmps : Array Value) (x : Tmp × Value) => tmps.setIfInBounds x.1 x.2) r.tmps, defers := [] } := ⟨by rw [htm]; exact tr1, .nil⟩
  have e1 : ({ tm := tm', nt := nt, df := [], h := h } : St).h = h := rfl
  rw [r6, r7]
  refine m2 N0 ρ _ w (Fence.wide.inRound e.blk) ⟨e, hid, rfl⟩ sim hstart (fun i a => hf i a) _ fun ρ1 a1' w1 ha1 hp1 => ?_
  -- the round begins
  have hid1 := hp1.ext _ _ hid
  obtain ⟨q, g1, g2, g3, g4, g5, g6, g7, g8, hp2⟩ := Post.loop (st' := .busy) (p' := p1) (f' := f1) hp1.sim hg1 hid1
  refine ⟨w1.putObj e.blk (.loop { q with state := .busy }), run_beginRound g1 g2, ?_⟩
  have hq : ({ q with state := LoopState.busy, pending := p1 } : Loop) = { q with state := .busy } := by rw [← g3]
  rw [hq] at hp2
  have hfr2 : Fresh ρ1 s1.h.nx s2.h.nx := by
    have := hp1.fresh (m := s2.h.nx) (fun i a => hf i a)
    exact this
  refine m4 N0 ρ1 a1' _ (Fence.wide.inRound e.blk) ⟨e, hid1, rfl⟩ hp2.sim ⟨ha1.tm, ha1.df⟩ hfr2 _ fun ρ2 a2' w2 ha2 hp3 => ?_
  have hid2 := hp3.ext _ _ hid1
  have tot : ∀ (st' : LoopState) (jump : Option Code) (b : Bool), (b = jump.isNone) → st' = (if jump.isNone then LoopState.ready else .done) → some (AV.bool b, s2.h.put id (some (.loop st' jump f2 t2 n2 q2 a2 b2 d2))) = some (v, h') →
      ∃ x w', (Instr.endRound e.blk jump).run P w2 = .ok x w' ∧ ∃ ρ' y, Ending.returned x = .returned y ∧ VR ρ' v y ∧ Post N0 ρ h.get h.nx w ρ' h'.get h'.nx w' := by
    intro st' jump b hb hst hh
    simp only [Option.some.injEq, Prod.mk.injEq] at hh
    obtain ⟨rfl, rfl⟩ := hh
    obtain ⟨z, z1, z2, z3, z4, z5, z6, z7, z8, hp4⟩ := Post.loop (st' := st') (p' := jump) (f' := f2) hp3.sim hg2 hid2
    refine ⟨.bool jump.isNone, _, run_endRound jump z1, ρ2, .bool jump.isNone, rfl, by rw [hb]; exact .bool _, ?_⟩
    rw [hst] at hp4
    have := ((hp1.trans hp2).trans hp3).trans hp4
    rw [hst]
    exact this
  cases ex with
  | normal =>
    obtain ⟨x, w', k1, k2⟩ := tot .ready none true rfl rfl he
    exact ⟨x, w', k1, k2⟩
  | ret =>
    obtain ⟨x, w', k1, k2⟩ := tot .done (some .ret) false rfl rfl he
    exact ⟨x, w', k1, k2⟩
  | exit i =>
    obtain ⟨x, w', k1, k2⟩ := tot .done (some (.exit i)) false rfl rfl he
    exact ⟨x, w', k1, k2⟩
end Go.Rx
