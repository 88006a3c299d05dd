import Derived.Test.YtpbcjdeldhhcpaaGreatDoorRx12
set_option linter.unusedVariables false
set_option linter.unusedSimpArgs false
set_option linter.unusedSectionVars false
noncomputable section
namespace Go.Rx
open Go

/-! ### 27. A loop over a function -/
theorem evLoop_ok {D : Tab} {P : Program} (hD : D.Ok2 P) {call : CallF} (hcall : CallOK P call) {F : Fence} (hF : F = Fence.wide ∨ ∃ l, F = Fence.wide.inRound l) {f : FuncId} {args : List AV} {l : Nat} {df : List Nat} {s s' : St} {h2 : H} {e : Ex} (he : evLoop call f args l df s h2 = some (e, s')) :
    ∀ N0 ρ (w : World) (vs : List Value) (el : E) (a' : Act), Sim N0 ρ h2.get w → VRs ρ args vs → ρ l = some el → TR ρ s.tm s.nt a'.tmps → DR ρ df a'.defers → Fresh ρ h2.nx s'.h.nx → ∀ Q : Exit → Act → World → Prop,
      (∀ ρ' w', ActR ρ' s' a' → Post N0 ρ h2.get h2.nx w ρ' s'.h.get s'.h.nx w' → Q (exr e) a' w') → CallsIn F 0 P f vs.toArray w (rangePost F 0 P el.blk Q a') := by
  unfold evLoop at he
  split at he
  case h_2 => simp at he
  rename_i v0 h3 hc
  split at he
  · simp at he
  · rename_i st p f3 t3 n3 q3 a3 b3 d3 hst hg
    split at he
    case h_2 => simp at he
    rename_i ex hp
    · simp only [Option.some.injEq, Prod.mk.injEq] at he
      obtain ⟨rfl, rfl⟩ := he
      refine fun N0 ρ w vs el a' sim hargs hl htm hdf hf Q hQ => ?_
      have hci := hcall f args h2 v0 h3 hc N0 ρ w vs sim hargs hf
      have hci' : CallsIn F 0 P f vs.toArray w (fun e w' => ∃ ρ' x, e = .returned x ∧ VR ρ' v0 x ∧ Post N0 ρ h2.get h2.nx w ρ' h3.get h3.nx w') := by
        rcases hF with rfl | ⟨l, rfl⟩
        · exact hci
        · exact hci
      refine CallsIn.mono hci' ?_
      rintro e w' ⟨ρ', x, rfl, _, hp1⟩
      obtain ⟨r, r1, r2, r3, r4, r5, r6, r7, r8, hp2⟩ := Post.loop (st' := .exhausted) (p' := p) (f' := f3) hp1.sim hg (hp1.ext _ _ hl)
      obtain ⟨rst, rp, rfn, rts, rps, rasg, rbd, rd⟩ := r
      simp only at r2 r3
      subst r2 r3
      have hend := run_endLoop (P := P) r1 (fun hb => hst hb)
      have htot := hp1.trans hp2
      have hact : ActR ρ' { s with df := df, h := h3.put l (some (.loop .exhausted rp f3 t3 n3 q3 a3 b3 d3)) } a' := ⟨htm.mono hp1.ext, hdf.mono hp1.ext⟩
      refine ⟨rp, _, hend, ?_⟩
      have hfin := hQ ρ' _ hact htot
      unfold pendR at hp
      split at hp
      · simp only [Option.some.injEq] at hp; subst hp; exact hfin
      · simp only [Option.some.injEq] at hp; subst hp; exact wpIn_ret hfin
      · simp only [Option.some.injEq] at hp; subst hp; exact wpIn_exit hfin
      · simp at hp
  · simp at he

theorem run_resolve_range {D : Tab} {P : Program} (hD : D.Ok2 P) {w : World} {a : Act} {g : Operand} {f : FuncId} {f' c' : List Value} (l : Nat) (hk : okF D f = true) (hg : a.eval g = .func (.func f) f'.toArray c'.toArray) :
    ∃ d, (resolve a.eval (rangeCall g l) 0).run P w = .ok d w ∧ (invoke d.target d.args).run P w = .ok (.enter f (f' ++ (Value.func (.yield l) #[] #[] :: c')).toArray) w := by
  refine ⟨{ target := .fn (.func f) c'.toArray, args := f'.toArray ++ #[Value.func (.yield l) #[] #[]] }, ?_, ?_⟩
  · simp only [resolve, rangeCall, hg, Deferred.ofValue, List.map_toArray, List.map_cons, List.map_nil]
    rfl
  · simp only [invoke]
    rw [run_callFunc hD hk]
    congr 2
    apply Array.ext'
    simp

theorem evRange2_ok {D : Tab} {P : Program} (hD : D.Ok2 P) {call : CallF} (hcall : CallOK P call) {rd : Option Nat} {fn : FuncId} {g : Operand} {ps : Array Tmp} {asg body : Code} {s s' : St} {e : Ex} (he : evRange2 D call rd fn g ps asg body s = some (e, s')) :
    ∀ N0 ρ a w F, Mode ρ rd F → Sim N0 ρ s.h.get w → ActR ρ s a → Fresh ρ s.h.nx s'.h.nx → ∀ Q : Exit → Act → World → Prop,
      (∀ ρ' a' w', ActR ρ' s' a' → Post N0 ρ s.h.get s.h.nx w ρ' s'.h.get s'.h.nx w' → Q (exr e) a' w') → (Code.rangeFunc g ps asg body).wpIn F 0 P Q a w := by
  unfold evRange2 at he
  split at he
  case h_2 => simp at he
  rename_i f first cap hg
  cases hk : okF D f with
  | false => simp [hk] at he
  | true =>
    simp only [hk, cond_true] at he
    cases rd with
    | none =>
      simp only at he
      refine fun N0 ρ a w F hm sim ha hf Q hQ => ?_
      have hF : F = Fence.wide := hm
      subst hF
      have hcont := evLoop_ok hD hcall (F := Fence.wide) (.inl rfl) he
      have hv := ofVal_eval ha.tm g
      rw [hg] at hv
      generalize hge : a.eval g = gv at hv
      cases hv with
      | func _ hfirst hcap =>
        rename_i f' c'
        refine wpIn_rangeFunc fun fn' _ => ?_
        obtain ⟨d, hd1, hd2⟩ := run_resolve_range hD (w := (w.alloc (.deferred (some []))).alloc (.loop { state := .ready, pending := none, fn := fn', tmps := a.tmps, params := ps, assign := asg, body := body, defers := w.heap.size })) (w.heap.size + 1) hk hge
        refine ⟨w.heap.size + 1, [{ target := .collected w.heap.size, args := #[] }], (w.alloc (.deferred (some []))).alloc (.loop { state := .ready, pending := none, fn := fn', tmps := a.tmps, params := ps, assign := asg, body := body, defers := w.heap.size }), d, _, f, _, _, ?_, hd1, fun _ _ => trivial, hd2, fun h => by simp [Fence.wide] at h, ?_⟩
        · show (Instr.enterLoop fn' a.tmps ps asg body none).run P w = _
          simp [Instr.enterLoop, newObj, Sem.run]
        · have n1 : ρ s.h.nx = none := hf _ (Nat.le_refl _)
          have p1 := Post.new sim n1 ⟨w.heap.size, 0, 0⟩ .defs (.deferred (some [])) rfl rfl ⟨heap_alloc_new w _, sim.base⟩
          have p1' := p1.weaken (s.h.new_sub .defs) (Nat.le_refl _)
          have n2 : (ρ.upd s.h.nx ⟨w.heap.size, 0, 0⟩) (s.h.nx + 1) = none := by
            unfold Emb.upd; simp only
            rw [if_neg (by omega)]
            exact hf _ (by omega)
          have hb2 := p1.sim.base
          have p2 := Post.new p1'.sim n2 ⟨w.heap.size + 1, 0, 0⟩ (.loop .ready none fn s.tm s.nt ps.toList asg body s.h.nx) (.loop { state := .ready, pending := none, fn := fn', tmps := a.tmps, params := ps, assign := asg, body := body, defers := w.heap.size }) (by simp) rfl
            ⟨a.tmps, ⟨w.heap.size, 0, 0⟩, fn', ha.tm.mono (Emb.le_trans p1.ext (Emb.le_upd _ n2)), Emb.le_upd _ n2 _ _ (Emb.upd_same _ _ _), by
              have := heap_alloc_new (w.alloc (.deferred (some []))) (.loop { state := .ready, pending := none, fn := fn', tmps := a.tmps, params := ps, assign := asg, body := body, defers := w.heap.size })
              simpa using this, by have := sim.base; simp; omega⟩
          have p2' := p2.weaken ((s.h.new .defs).new_sub _) (Nat.le_refl _)
          have p12 := p1'.trans p2'
          have hout := hcont N0 _ _ (f' ++ (Value.func (.yield (w.heap.size + 1)) #[] #[] :: c')) ⟨w.heap.size + 1, 0, 0⟩ { a with defers := [{ target := .collected w.heap.size, args := #[] }] ++ a.defers } p12.sim
            ((hfirst.mono p12.ext).append (.cons (.yield (Emb.upd_same _ _ _)) (hcap.mono p12.ext))) (Emb.upd_same _ _ _) (ha.tm.mono p12.ext)
            (.cons (e := ⟨w.heap.size, 0, 0⟩) (p2.ext _ _ (Emb.upd_same _ _ _)) (ha.df.mono p12.ext)) (p12.fresh hf) Q (fun ρ' w' ha' hp' => hQ ρ' _ w' ha' (p12.trans hp'))
          exact hout
    | some r =>
      simp only at he
      split at he
      case h_2 => simp at he
      rename_i st0 p0 f0 t0 m0 q0 a0 b0 d0 hgr
      refine fun N0 ρ a w F hm sim ha hf Q hQ => ?_
      obtain ⟨er, her, hF⟩ := hm
      subst hF
      have hcont := evLoop_ok hD hcall (F := Fence.wide.inRound er.blk) (.inr ⟨_, rfl⟩) he
      have hv := ofVal_eval ha.tm g
      rw [hg] at hv
      generalize hge : a.eval g = gv at hv
      obtain ⟨er', her', hor⟩ := sim.obj _ _ hgr
      rw [her] at her'; cases her'
      obtain ⟨ts0, ed0, fn0, o1, o2, o3, o4⟩ := hor
      cases hv with
      | func _ hfirst hcap =>
        rename_i f' c'
        refine wpIn_rangeFunc fun fn' _ => ?_
        obtain ⟨d, hd1, hd2⟩ := run_resolve_range hD (w := w.alloc (.loop { state := .ready, pending := none, fn := fn', tmps := a.tmps, params := ps, assign := asg, body := body, defers := ed0.blk })) w.heap.size hk hge
        refine ⟨w.heap.size, [], w.alloc (.loop { state := .ready, pending := none, fn := fn', tmps := a.tmps, params := ps, assign := asg, body := body, defers := ed0.blk }), d, _, f, _, _, ?_, hd1, fun _ _ => trivial, hd2, fun h => by simp [Fence.wide, Fence.inRound] at h, ?_⟩
        · show (Instr.enterLoop fn' a.tmps ps asg body (some er.blk)).run P w = _
          have := run_getLoop (P := P) o3
          simp [Instr.enterLoop, this, newObj, Sem.run]
        · have n1 : ρ s.h.nx = none := hf _ (Nat.le_refl _)
          have p1 := Post.new sim n1 ⟨w.heap.size, 0, 0⟩ (.loop .ready none fn s.tm s.nt ps.toList asg body d0) (.loop { state := .ready, pending := none, fn := fn', tmps := a.tmps, params := ps, assign := asg, body := body, defers := ed0.blk }) rfl rfl
            ⟨a.tmps, ed0, fn', ha.tm.mono (Emb.le_upd _ n1), Emb.le_upd _ n1 _ _ o2, heap_alloc_new w _, sim.base⟩
          have p1' := p1.weaken (s.h.new_sub _) (Nat.le_refl _)
          have hout := hcont N0 _ _ (f' ++ (Value.func (.yield w.heap.size) #[] #[] :: c')) ⟨w.heap.size, 0, 0⟩ { a with defers := [] ++ a.defers } p1'.sim
            ((hfirst.mono p1.ext).append (.cons (.yield (Emb.upd_same _ _ _)) (hcap.mono p1.ext))) (Emb.upd_same _ _ _) (ha.tm.mono p1.ext)
            (ha.df.mono p1.ext) (p1'.fresh hf) Q (fun ρ' w' ha' hp' => hQ ρ' _ w' ha' (p1'.trans hp'))
          exact hout

/-! ### 28. Code -/
theorem evCode_ok {D : Tab} {P : Program} (hD : D.Ok2 P) {draws : DrawF} (hdraw : DrawOK P draws) {call : CallF} (hcall : CallOK P call) (fn : FuncId) : ∀ n, CodeOK P (evCode P D draws call fn n)
  | 0 => fun rd c s e s' he => by simp [evCode] at he
  | n + 1 => by
    have ih := evCode_ok hD hdraw hcall fn n
    intro rd c s e s' he
    rw [evCode.eq_def] at he
    simp only at he
    split at he
    · simp only [Option.some.injEq, Prod.mk.injEq] at he
      obtain ⟨rfl, rfl⟩ := he
      exact fun N0 ρ a w F hm sim ha hf Q hQ => wpIn_skip (hQ ρ a w ha (.refl sim))
    · rename_i id ops draw
      split at he
      case h_2 => simp at he
      rename_i s1 h1
      simp only [Option.some.injEq, Prod.mk.injEq] at he
      obtain ⟨rfl, rfl⟩ := he
      cases draw with
      | true =>
        simp only [cond_true] at h1
        refine fun N0 ρ a w F hm sim ha hf Q hQ => ?_
        exact (hdraw (fun _ => call) (fun _ => evRound (evCode P D draws call fn n)) (fun _ => hcall) (fun _ => evRound_ok ih) F hm.or id ops s s1 h1) N0 ρ a w sim ha hf Q hQ
      | false =>
        simp only [cond_false] at h1
        refine fun N0 ρ a w F hm sim ha hf Q hQ => ?_
        refine wpIn_region ?_
        have := evOps_ok hD (call := fun _ => call) (round := fun _ => evRound (evCode P D draws call fn n)) (fun _ => hcall) (fun _ => evRound_ok ih) hm.or (ops := ops) Q ops.toList 0 rfl sim ha h1 hf hQ
        rw [List.range_eq_range']
        simpa using this
    · rename_i x y
      split at he
      · rename_i s1 h1
        have k2 := ih _ _ _ _ _ h1
        have k4 := ih _ _ _ _ _ he
        refine fun N0 ρ a w F hm sim ha hf Q hQ => wpIn_seq ?_
        refine k2 N0 ρ a w F hm sim ha (fun i p => hf i p) _ fun ρ' a' w' ha' hp => ?_
        exact k4 N0 ρ' a' w' F (hm.mono hp.ext) hp.sim ha' (hp.fresh hf) Q fun ρ'' a'' w'' ha'' hp' => hQ ρ'' a'' w'' ha'' (hp.trans hp')
      · rename_i hne
        have k2 := ih _ _ _ _ _ he
        refine fun N0 ρ a w F hm sim ha hf Q hQ => wpIn_seq ?_
        refine k2 N0 ρ a w F hm sim ha hf _ fun ρ' a' w' ha' hp => ?_
        cases e with
        | normal => exact absurd he (hne s')
        | exit id => exact hQ ρ' a' w' ha' hp
        | ret => exact hQ ρ' a' w' ha' hp
    · rename_i x y z
      split at he
      · rename_i t hv
        have k2 := ih _ _ _ _ _ he
        refine fun N0 ρ a w F hm sim ha hf Q hQ => ?_
        have hx := ofVal_eval ha.tm x
        rw [hv] at hx
        generalize hxe : a.eval x = xv at hx
        cases hx
        refine wpIn_cond hxe ?_
        have := k2 N0 ρ a w F hm sim ha hf Q hQ
        cases t <;> exact this
      · simp at he
    · rename_i id b
      split at he
      · rename_i i s1 h1
        have k2 := ih _ _ _ _ _ h1
        cases q : Nat.beq i id with
        | true =>
          have hi := Nat.eq_of_beq_eq_true q
          subst hi
          simp only [q, cond_true, Option.some.injEq, Prod.mk.injEq] at he
          obtain ⟨rfl, rfl⟩ := he
          refine fun N0 ρ a w F hm sim ha hf Q hQ => wpIn_block ?_
          refine k2 N0 ρ a w F hm sim ha hf _ fun ρ' a' w' ha' hp => ?_
          simp only [exr, Exit.inBlock, if_true]
          exact hQ ρ' a' w' ha' hp
        | false =>
          simp only [q, cond_false, Option.some.injEq, Prod.mk.injEq] at he
          obtain ⟨rfl, rfl⟩ := he
          have hne : i ≠ id := fun h => by subst h; simp at q
          refine fun N0 ρ a w F hm sim ha hf Q hQ => wpIn_block ?_
          refine k2 N0 ρ a w F hm sim ha hf _ fun ρ' a' w' ha' hp => ?_
          simp only [exr, Exit.inBlock, if_neg hne]
          exact hQ ρ' a' w' ha' hp
      · rename_i hne
        have k2 := ih _ _ _ _ _ he
        refine fun N0 ρ a w F hm sim ha hf Q hQ => wpIn_block ?_
        refine k2 N0 ρ a w F hm sim ha hf _ fun ρ' a' w' ha' hp => ?_
        cases e with
        | exit i => exact absurd he (hne i s')
        | normal => exact hQ ρ' a' w' ha' hp
        | ret => exact hQ ρ' a' w' ha' hp
    · rename_i b
      -- a loop: as many rounds as there is fuel
      have key : ∀ (m : Nat) (s : St), m ≤ n → evCode P D draws call fn (m + 1) rd (.loop b) s = some (e, s') → ∀ N0 ρ a w F, Mode ρ rd F → Sim N0 ρ s.h.get w → ActR ρ s a → Fresh ρ s.h.nx s'.h.nx → ∀ Q : Exit → Act → World → Prop,
          (∀ ρ' a' w', ActR ρ' s' a' → Post N0 ρ s.h.get s.h.nx w ρ' s'.h.get s'.h.nx w' → Q (exr e) a' w') → Code.roundsIn F 0 P b Q (m + 1) a w := by
        intro m
        induction m with
        | zero =>
          intro s hm he
          rw [evCode.eq_def] at he
          simp only [evCode.eq_1] at he
          simp at he
        | succ m ihm =>
          intro s hm he
          rw [evCode.eq_def] at he
          simp only at he
          have ihb := evCode_ok hD hdraw hcall fn (m + 1)
          split at he
          · rename_i s1 h1
            have k2 := ihb _ _ _ _ _ h1
            have k4 := ihm s1 (by omega) he
            refine fun N0 ρ a w F hmd sim ha hf Q hQ => ?_
            rw [roundsIn_succ]
            refine k2 N0 ρ a w F hmd sim ha (fun i p => hf i p) _ fun ρ' a' w' ha' hp => ?_
            exact k4 N0 ρ' a' w' F (hmd.mono hp.ext) hp.sim ha' (hp.fresh hf) Q fun ρ'' a'' w'' ha'' hp' => hQ ρ'' a'' w'' ha'' (hp.trans hp')
          · rename_i hne
            have k2 := ihb _ _ _ _ _ he
            refine fun N0 ρ a w F hmd sim ha hf Q hQ => ?_
            rw [roundsIn_succ]
            refine k2 N0 ρ a w F hmd sim ha hf _ fun ρ' a' w' ha' hp => ?_
            cases e with
            | normal => exact absurd he (hne s')
            | exit id => exact hQ ρ' a' w' ha' hp
            | ret => exact hQ ρ' a' w' ha' hp
      have he' : evCode P D draws call fn (n + 1) rd (.loop b) s = some (e, s') := by rw [evCode.eq_def]; exact he
      have k2 := key n s (Nat.le_refl _) he'
      exact fun N0 ρ a w F hm sim ha hf Q hQ => wpIn_loop_rounds _ (k2 N0 ρ a w F hm sim ha hf Q hQ)
    · exact evRange2_ok hD hcall he
    · simp only [Option.some.injEq, Prod.mk.injEq] at he
      obtain ⟨rfl, rfl⟩ := he
      exact fun N0 ρ a w F hm sim ha hf Q hQ => wpIn_exit (hQ ρ a w ha (.refl sim))
    · simp only [Option.some.injEq, Prod.mk.injEq] at he
      obtain ⟨rfl, rfl⟩ := he
      exact fun N0 ρ a w F hm sim ha hf Q hQ => wpIn_label (hQ ρ a w ha (.refl sim))
    · simp only [Option.some.injEq, Prod.mk.injEq] at he
      obtain ⟨rfl, rfl⟩ := he
      exact fun N0 ρ a w F hm sim ha hf Q hQ => wpIn_ret (hQ ρ a w ha (.refl sim))
    · split at he
      · have k2 := ih _ _ _ _ _ he
        refine fun N0 ρ a w F hm sim ha hf Q hQ => ?_
        have hF : F = Fence.wide := hm
        subst hF
        rw [wpIn_wide]
        refine wp_scope_straight ?_
        rw [← wpIn_wide (n := 0)]
        refine k2 N0 ρ a w _ hm sim ha hf _ fun ρ' a' w' ha' hp => ?_
        have := hQ ρ' a' w' ha' hp
        cases e <;> exact this
      · simp at he
    · simp at he
termination_by n => n
end Go.Rx
