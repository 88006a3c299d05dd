import Derived.Test.YtpbcjdeldhhcpaaGreatDoorRx9
set_option linter.unusedVariables false
set_option linter.unusedSimpArgs false
set_option linter.unusedSectionVars false
noncomputable section
namespace Go.Rx
open Go

/-! ### 24. One operation is sound -/
theorem ofVal_eval {ρ : Emb} {tm : T AV} {nt : Nat} {a : Act} (h : TR ρ tm nt a.tmps) (x : Operand) : VR ρ (evalO tm x) (a.eval x) := by
  cases x with
  | tmp t =>
    simp only [evalO, Act.eval]
    split
    · rename_i v hv; exact h.2 t v hv
    · exact .any _
  | const v => exact ofVal_rel ρ v
  | global g => exact .any _
  | func f => exact .func (f' := []) (c' := []) _ .nil .nil

theorem VRs.map_eval {ρ : Emb} {tm : T AV} {nt : Nat} {a : Act} (h : TR ρ tm nt a.tmps) : ∀ l : List Operand, VRs ρ (l.map (evalO tm)) (l.map a.eval)
  | [] => .nil
  | x :: l => .cons (ofVal_eval h x) (VRs.map_eval h l)
theorem PR.map_eval {ρ : Emb} {tm : T AV} {nt : Nat} {a : Act} (h : TR ρ tm nt a.tmps) : ∀ l : List (Nat × Operand), PR ρ (l.map fun (i, x) => (i, evalO tm x)) (l.map fun (i, x) => (i, a.eval x))
  | [] => .nil
  | (i, x) :: l => .cons (ofVal_eval h x) (PR.map_eval h l)
theorem ov_map_eval {ρ : Emb} {tm : T AV} {nt : Nat} {a : Act} (h : TR ρ tm nt a.tmps) : ∀ o : Option Operand, OV ρ (o.map (evalO tm)) (o.map a.eval)
  | none => OV.none
  | some x => OV.some (ofVal_eval h x)

structure Tab.Ok2 (D : Tab) (P : Program) : Prop extends D.Ok P where
  name : ∀ f x, D.fn f = some x → (x.name == "runtime.NumGoroutine") = false

def OpOK (P : Program) (D : Tab) (N0 : Nat) (ρ : Emb) (h : Hp) (nx : Nat) (w : World) (s : Sem Next) : OpR → Prop
  | .val v h' => Fresh ρ nx h'.nx → ∃ ρ' x w', s.run P w = .ok (.value x) w' ∧ VR ρ' v x ∧ Post N0 ρ h nx w ρ' h'.get h'.nx w'
  | .skip h' => ∃ w', s.run P w = .ok .skip w' ∧ Post N0 ρ h nx w ρ h'.get h'.nx w'
  | .enter f args => ∃ vs : List Value, s.run P w = .ok (.enter f vs.toArray) w ∧ VRs ρ args vs
  | .round id args => ∃ (e : E) (vs : List Value), ρ id = some e ∧ VRs ρ args vs ∧ s.run P w = (Instr.yield e.blk vs.toArray).run P w

theorem OpOK.val {P : Program} {D : Tab} {N0 : Nat} {ρ : Emb} {h : Hp} {nx : Nat} {w : World} {s : Sem Value} {v : AV} {h' : H} (hr : Fresh ρ nx h'.nx → ROk P N0 ρ h nx w s v h'.get h'.nx) : OpOK P D N0 ρ h nx w (do pure (.value (← s))) (.val v h') := fun hf => by
  obtain ⟨ρ', x, w', h1, h2, h3⟩ := hr hf
  exact ⟨ρ', x, w', by rw [Sem.run_bind, h1, Result.andThen_ok]; rfl, h2, h3⟩
theorem OpOK.skip {P : Program} {D : Tab} {N0 : Nat} {ρ : Emb} {h : Hp} {nx : Nat} {w : World} {s : Sem Unit} {h' : H} (hr : ∃ w', s.run P w = .ok () w' ∧ Post N0 ρ h nx w ρ h'.get h'.nx w') : OpOK P D N0 ρ h nx w (do s; pure .skip) (.skip h') := by
  obtain ⟨w', h1, h2⟩ := hr
  exact ⟨w', by rw [Sem.run_bind, h1, Result.andThen_ok]; rfl, h2⟩

theorem evNilCheck_ok {P : Program} {ρ : Emb} {w : World} {x r : AV} {a : Value} (hx : VR ρ x a) (he : evNilCheck x = some r) : r = x ∧ (a = .nilFunc → False) ∧ (a = .nilIface → False) ∧ (a = .pointer none → False) ∧ (∀ n f c, a = .func (.method n) f c → False) := by
  unfold evNilCheck at he
  split at he
  · simp only [Option.some.injEq] at he
    cases hx
    exact ⟨he.symm, by simp, by simp, by simp, by simp⟩
  · simp only [Option.some.injEq] at he
    cases hx
    exact ⟨he.symm, by simp, by simp, by simp, by simp⟩
  · simp at he

theorem evBuiltin_ok {D : Tab} {P : Program} (hD : D.Ok P) {N0 : Nat} {ρ : Emb} {h h' : H} {w : World} {b : Builtin} {ts : Array TypeId} {ty : TypeId} {cs : Array Bool} {args : List AV} {vs : List Value} {r : AV} (s : Sim N0 ρ h.get w) (ha : VRs ρ args vs) (he : evBuiltin P D b ts ty args h = some (r, h')) :
    OpOK P D N0 ρ h.get h.nx w (builtin b ts ty cs vs.toArray) (.val r h') := by
  unfold evBuiltin at he
  split at he
  · cases ha with
    | cons h1 t =>
      cases t with
      | cons h2 t2 =>
        cases t2
        exact OpOK.val fun hf => evAppend_ok hD s h1 h2 he hf
  · split at he
    · rename_i v hv
      simp only [Option.some.injEq, Prod.mk.injEq] at he
      obtain ⟨rfl, rfl⟩ := he
      cases ha with
      | cons h1 t =>
        cases t
        exact OpOK.val fun _ => evLen_ok hD s h1 hv
    · simp at he
  · split at he
    · rename_i l hl
      split at he
      · rename_i v hv
        simp only [Option.some.injEq, Prod.mk.injEq] at he
        obtain ⟨rfl, rfl⟩ := he
        have := AV.vals_rel ha _ hl
        subst this
        exact OpOK.val fun _ => evPure_ok s hv
      · simp at he
    · simp at he
  · split at he
    · rename_i l hl
      split at he
      · rename_i v hv
        simp only [Option.some.injEq, Prod.mk.injEq] at he
        obtain ⟨rfl, rfl⟩ := he
        have := AV.vals_rel ha _ hl
        subst this
        exact OpOK.val fun _ => evPure_ok s hv
      · simp at he
    · simp at he
  · split at he
    · rename_i h1 hv
      simp only [Option.some.injEq, Prod.mk.injEq] at he
      obtain ⟨rfl, rfl⟩ := he
      cases ha with
      | cons h1 t =>
        cases t
        obtain ⟨w', k1, k2⟩ := evClear_ok (ty := ty) hD s h1 hv
        exact OpOK.val fun _ => ⟨ρ, .tuple #[], w', k1, .tuple (vs := []) .nil, k2⟩
    · simp at he
  · simp at he

theorem run_callFunc {D : Tab} {P : Program} (hD : D.Ok2 P) {w : World} {f : FuncId} (h : okF D f = true) (args : Array Value) : (callFunc f args).run P w = .ok (.enter f args) w := by
  unfold okF at h
  split at h
  · rename_i x hx
    have h1 := hD.fn f x hx
    have h2 := hD.name f x hx
    have hb : x.body ≠ none := by intro hb; simp [hb] at h
    have h2' : x.name ≠ "runtime.NumGoroutine" := by simpa using h2
    simp [callFunc, program, Sem.run, h1, h2', hb]
  · simp at h

theorem evCallee_ok {D : Tab} {P : Program} (hD : D.Ok2 P) {N0 : Nat} {ρ : Emb} {h : H} {w : World} {tm : T AV} {nt : Nat} {a : Act} {c : Call} {ty : TypeId} {r : OpR} (s : Sim N0 ρ h.get w) (ht : TR ρ tm nt a.tmps) (he : evCallee P D (evalO tm) c ty h = some r) :
    OpOK P D N0 ρ h.get h.nx w (do let d ← resolve a.eval c ty; invoke d.target d.args) r := by
  have hargs := VRs.map_eval ht c.args.toList
  unfold evCallee at he
  split at he
  · rename_i f hcal
    have hf := ofVal_eval ht f
    split at he
    · rename_i g first cap hv
      rw [hv] at hf
      cases hk : okF D g with
      | false => simp [hk] at he
      | true =>
        simp only [hk, cond_true, Option.some.injEq] at he
        subst he
        generalize hfe : a.eval f = fv at hf
        cases hf with
        | func _ h1 h2 =>
          rename_i f' c'
          refine ⟨f' ++ (c.args.toList.map a.eval ++ c'), ?_, h1.append (hargs.append h2)⟩
          have hinv := run_callFunc hD (w := w) hk (f'.toArray ++ c.args.map a.eval ++ c'.toArray)
          have hr : (resolve a.eval c ty).run P w = .ok { target := .fn (.func g) c'.toArray, args := f'.toArray ++ c.args.map a.eval } w := by
            simp only [resolve, hcal, hfe, Deferred.ofValue]
            rfl
          rw [Sem.run_bind, hr, Result.andThen_ok]
          simp only [invoke]
          rw [hinv]
          congr 2
          apply Array.ext'
          simp
    · rename_i id hv
      rw [hv] at hf
      simp only [Option.some.injEq] at he
      subst he
      generalize hfe : a.eval f = fv at hf
      cases hf with
      | yield hid =>
        rename_i e
        refine ⟨e, c.args.toList.map a.eval, hid, hargs, ?_⟩
        have hr : (resolve a.eval c ty).run P w = .ok { target := .fn (.yield e.blk) #[], args := #[] ++ c.args.map a.eval } w := by
          simp only [resolve, hcal, hfe, Deferred.ofValue]
          rfl
        rw [Sem.run_bind, hr, Result.andThen_ok]
        simp only [invoke]
        congr 2
        apply Array.ext'
        simp
    · simp at he
  · rename_i b hcal
    split at he
    · rename_i v h' hb
      simp only [Option.some.injEq] at he
      subst he
      have := evBuiltin_ok hD.toOk (cs := c.args.map fun | .const _ => true | _ => false) s hargs hb
      intro hf
      obtain ⟨ρ', x, w', k1, k2, k3⟩ := this hf
      refine ⟨ρ', x, w', ?_, k2, k3⟩
      have hr : (resolve a.eval c ty).run P w = .ok { target := .builtin b c.argTypes ty (c.args.map fun | .const _ => true | _ => false), args := c.args.map a.eval } w := by
        simp only [resolve, hcal]
        rfl
      rw [Sem.run_bind, hr, Result.andThen_ok]
      simp only [invoke]
      have e1 : c.args.map a.eval = (c.args.toList.map a.eval).toArray := by apply Array.ext'; simp
      rw [e1]
      exact k1
    · simp at he
  · simp at he

theorem valR_some {h : H} {o : Option AV} {r : OpR} (h' : valR h o = some r) : ∃ v, o = some v ∧ r = .val v h := by
  cases o with
  | none => simp [valR] at h'
  | some v => simp only [valR, Option.some.injEq] at h'; exact ⟨v, rfl, h'.symm⟩
theorem newR_some {o : Option (AV × H)} {r : OpR} (h' : newR o = some r) : ∃ v h, o = some (v, h) ∧ r = .val v h := by
  cases o with
  | none => simp [newR] at h'
  | some p => obtain ⟨v, h⟩ := p; simp only [newR, Option.some.injEq] at h'; exact ⟨v, h, rfl, h'.symm⟩
theorem skipR_some {o : Option H} {r : OpR} (h' : skipR o = some r) : ∃ h, o = some h ∧ r = .skip h := by
  cases o with
  | none => simp [skipR] at h'
  | some h => simp only [skipR, Option.some.injEq] at h'; exact ⟨h, rfl, h'.symm⟩

theorem evOp_ok {D : Tab} {P : Program} (hD : D.Ok2 P) {N0 : Nat} {ρ : Emb} {h : H} {w : World} {tm : T AV} {nt : Nat} {a : Act} {o : Oper} {r : OpR} (s : Sim N0 ρ h.get w) (ht : TR ρ tm nt a.tmps) (he : evOp P D (evalO tm) o h = some r) :
    OpOK P D N0 ρ h.get h.nx w (execOp a.eval o) r := by
  have hO := hD.toOk
  have E := fun x => ofVal_eval ht x
  unfold evOp at he
  unfold execOp
  split at he
  all_goals (rename_i hop; simp only [hop])
  · simp only [Option.some.injEq] at he; subst he
    exact fun _ => ⟨ρ, _, w, rfl, E _, .refl s⟩
  · simp only [Option.some.injEq] at he; subst he
    exact fun _ => ⟨ρ, _, w, rfl, E _, .refl s⟩
  · rename_i c x y
    have hc := E c
    split at he
    · rename_i t hv
      simp only [Option.some.injEq] at he; subst he
      rw [hv] at hc
      generalize hce : a.eval c = cv at hc
      cases hc
      refine fun _ => ⟨ρ, if t then a.eval x else a.eval y, w, ?_, ?_, .refl s⟩
      · simp [asBool]
      · cases t
        · exact E y
        · exact E x
    · simp at he
  · obtain ⟨v, h', hv, rfl⟩ := newR_some he
    exact OpOK.val fun hf => evAlloc_ok hO s hv hf
  · obtain ⟨v, h', hv, rfl⟩ := newR_some he
    exact OpOK.val fun hf => evBox_ok s (E _) hv hf
  · obtain ⟨v, hv, rfl⟩ := valR_some he
    refine OpOK.val fun _ => evBuild_ok hO s ?_ hv
    rw [Array.toList_map]
    exact PR.map_eval ht _
  · obtain ⟨v, h', hv, rfl⟩ := newR_some he
    refine OpOK.val fun hf => evBuildSlice_ok hO s ?_ hv hf
    rw [Array.toList_map]
    exact PR.map_eval ht _
  · obtain ⟨v, hv, rfl⟩ := valR_some he
    exact OpOK.val fun _ => evLoad_ok hO s (E _) hv
  · obtain ⟨h', hv, rfl⟩ := skipR_some he
    exact OpOK.skip (evStore_ok hO s (E _) (E _) hv)
  · obtain ⟨v, hv, rfl⟩ := valR_some he
    rename_i x
    obtain ⟨rfl, k1, k2, k3, k4⟩ := evNilCheck_ok (P := P) (w := w) (E x) hv
    have hx := E x
    intro _
    refine ⟨ρ, a.eval x, w, ?_, hx, .refl s⟩
    split
    · rename_i hz; exact (k3 hz).elim
    · rename_i hz; exact (k2 hz).elim
    · rename_i hz; exact (k1 hz).elim
    · rename_i n f c hz; exact (k4 _ _ _ hz).elim
    · rfl
  · obtain ⟨v, hv, rfl⟩ := valR_some he
    exact OpOK.val fun _ => evBin_ok hO s (E _) (E _) hv
  · obtain ⟨v, hv, rfl⟩ := valR_some he
    exact OpOK.val fun _ => ev1_ok s (E _) hv
  · obtain ⟨v, hv, rfl⟩ := valR_some he
    exact OpOK.val fun _ => ev1_ok s (E _) hv
  · simp only [Option.some.injEq] at he; subst he
    rename_i fn first cap
    refine fun _ => ⟨ρ, .func fn (first.map a.eval) (cap.map a.eval), w, rfl, ?_, .refl s⟩
    have e1 : first.map a.eval = (first.toList.map a.eval).toArray := by apply Array.ext'; simp
    have e2 : cap.map a.eval = (cap.toList.map a.eval).toArray := by apply Array.ext'; simp
    rw [e1, e2]
    exact .func fn (VRs.map_eval ht _) (VRs.map_eval ht _)
  · obtain ⟨v, h', hv, rfl⟩ := newR_some he
    exact OpOK.val fun hf => evMakeMap_ok s (ov_map_eval ht _) hv hf
  · obtain ⟨v, h', hv, rfl⟩ := newR_some he
    exact OpOK.val fun hf => evMakeSlice_ok hO s (E _) (E _) hv hf
  · obtain ⟨v, hv, rfl⟩ := valR_some he
    exact OpOK.val fun _ => evSlice_ok hO s (E _) (ov_map_eval ht _) (ov_map_eval ht _) hv
  · obtain ⟨v, hv, rfl⟩ := valR_some he
    exact OpOK.val fun _ => evField_ok hO s (E _) hv
  · obtain ⟨v, hv, rfl⟩ := valR_some he
    exact OpOK.val fun _ => evFieldOf_ok hO s (E _) hv
  · obtain ⟨v, hv, rfl⟩ := valR_some he
    exact OpOK.val fun _ => evIndexAddr_ok hO s (E _) (E _) hv
  · obtain ⟨v, hv, rfl⟩ := valR_some he
    exact OpOK.val fun _ => evIndex_ok hO s (E _) (E _) hv
  · obtain ⟨v, hv, rfl⟩ := valR_some he
    exact OpOK.val fun _ => evLookup_ok hO s (E _) (E _) hv
  · obtain ⟨h', hv, rfl⟩ := skipR_some he
    exact OpOK.skip (evMapUpdate_ok hO s (E _) (E _) (E _) hv)
  · obtain ⟨h', hv, rfl⟩ := skipR_some he
    exact OpOK.skip (evMapUpdate_ok hO s (E _) (E _) (E _) hv)
  · obtain ⟨v, h', hv, rfl⟩ := newR_some he
    exact OpOK.val fun hf => evRange_ok hO s (E _) hv hf
  · obtain ⟨v, h', hv, rfl⟩ := newR_some he
    exact OpOK.val fun _ => evNext_ok s (E _) hv
  · obtain ⟨v, hv, rfl⟩ := valR_some he
    exact OpOK.val fun _ => evExtract_ok s (E _) hv
  · exact evCallee_ok hD s ht he
  · simp at he
end Go.Rx
