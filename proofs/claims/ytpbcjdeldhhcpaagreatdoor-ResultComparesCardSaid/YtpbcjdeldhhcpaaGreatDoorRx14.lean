import Derived.Test.YtpbcjdeldhhcpaaGreatDoorRx13
set_option linter.unusedVariables false
set_option linter.unusedSimpArgs false
set_option linter.unusedSectionVars false
noncomputable section
namespace Go.Rx
open Go

/-! ### 29. Calls -/
/-- An own block is told no more, whatever it holds from now on. -/
theorem Post.drop {N0 : Nat} {ρ : Emb} {h : Hp} {nx : Nat} {w w' : World} (s : Sim N0 ρ h w) {id : Nat} {e : E} {o : AO} (hid : h id = some o) (he : ρ id = some e) (ho : o.own = true)
    (hos : w'.os = w.os) (htape : w'.tape = w.tape) (hout : w'.output = w.output) (hsize : w'.heap.size = w.heap.size) (hkeep : ∀ b, b ≠ e.blk → w'.heap[b]? = w.heap[b]?) :
    Post N0 ρ h nx w ρ (fun i => if i = id then none else h i) nx w' where
  ext := Emb.le_refl _
  dom _ _ h := .inl h
  sim := by
    refine ⟨by rw [hsize]; exact s.base, fun i oi hi => ?_, fun i j oi oj ei ej hi hj h1 h2 h3 h4 h5 => ?_, fun b ob hb => ?_⟩
    · try simp only at hi
      split at hi
      · cases hi
      · rename_i hii
        obtain ⟨e', he', hoi⟩ := s.obj i oi hi
        refine ⟨e', he', hoi.same (Emb.le_refl _) (hkeep _ fun heq => hii ?_)⟩
        cases hown : oi.own with
        | true => exact s.inj i id oi o e' e hi hid hown ho he' he heq
        | false =>
          have h1 := hoi.ro hown
          obtain ⟨e2, he2, h2⟩ := s.obj id o hid
          rw [he] at he2; cases he2
          have := h2.ge ho
          omega
    · try simp only at hi hj
      split at hi
      · cases hi
      · split at hj
        · cases hj
        · exact s.inj i j oi oj ei ej hi hj h1 h2 h3 h4 h5
    · obtain ⟨k1, k2⟩ := s.fz b ob hb
      refine ⟨(hkeep b fun hbe => k2 ⟨id, o, e, hid, ho, he, hbe.symm⟩).trans k1, fun ⟨i, oi, ei, h1, h2, h3, h4⟩ => k2 ?_⟩
      try simp only at h1
      split at h1
      · cases h1
      · exact ⟨i, oi, ei, h1, h2, h3, h4⟩
  le := Nat.le_refl _
  os := hos
  tape := htape
  output := hout
  size := by omega
  keep b hb hn := hkeep b fun hbe => hn ⟨id, o, e, hid, ho, he, hbe.symm⟩
  fzn _ _ h := .inl h
  foot b hb := by
    obtain ⟨i, oi, ei, h1, h2, h3, h4⟩ := hb
    try simp only at h1
    split at h1
    · cases h1
    · exact .inl ⟨i, oi, ei, h1, h2, h3, h4⟩

theorem leaves_ok {P : Program} {fn : Func} {tmps : Array Value} {R : Ending → World → Prop} {N0 : Nat} : ∀ {df : List Nat} {ds : List Deferred} {h h' : H} {ρ : Emb} {w : World}, evDefs df h = some h' → DR ρ df ds → Sim N0 ρ h.get w →
    (∀ w', Post N0 ρ h.get h.nx w ρ h'.get h'.nx w' → ∃ v, (results fn tmps).run P w' = .ok v w' ∧ R (.returned v) w') → LeavesInM Fence.wide 0 P fn tmps R ds .returning w
  | [], _, h, h', ρ, w, he, .nil, sim, hfin => by
    simp only [evDefs, Option.some.injEq] at he
    subst he
    exact hfin w (.refl sim)
  | id :: df, _, h, h', ρ, w, he, .cons (e := e) hid t, sim, hfin => by
    rw [evDefs] at he
    split at he
    · rename_i hg
      obtain ⟨e', he', ho⟩ := sim.obj _ _ hg
      rw [hid] at he'; cases he'
      obtain ⟨hb, hge⟩ := ho
      have hlt := (Array.getElem?_eq_some_iff.1 hb).1
      have hp := (Post.drop (nx := h.nx) (w' := w.putObj e.blk (.deferred none)) sim hg hid rfl rfl rfl rfl (by simp) (fun b hb' => World.putObj_heap_other hb')).weaken (h'' := (h.put id none).get) (fun i o hi => by
        obtain ⟨h1, h2⟩ := h.del_sub id i o hi
        rw [if_neg h1]; exact h2) (Nat.le_refl _)
      refine ⟨by simp, .inl ⟨e.blk, _, rfl, run_takeDeferred hb, ?_⟩⟩
      exact leaves_ok he t hp.sim fun w' hp' => hfin w' (hp.trans hp')
    · simp at he

def rv (tmps : Array Value) : ResultVar → Sem Value
  | .tmp t => pure (tmps.getD t undef)
  | .cell a t => do loadVar t (← asAddr (tmps.getD a undef))
theorem results_eq (fn : Func) (tmps : Array Value) : results fn tmps = (do let vs ← fn.results.mapM (rv tmps); pure (if h : vs.size = 1 then vs[0] else .tuple vs)) := by
  unfold results
  have : (fun x => match x with
      | ResultVar.tmp t => (pure (tmps.getD t undef) : Sem Value)
      | ResultVar.cell a t => do loadVar t (← asAddr (tmps.getD a undef))) = rv tmps := by funext x; cases x <;> rfl
  rw [← this]
  congr
theorem evResults_ok {D : Tab} {P : Program} (hD : D.Ok P) {N0 : Nat} {ρ : Emb} {w : World} {s : St} {a : Act} (sim : Sim N0 ρ s.h.get w) (ha : TR ρ s.tm s.nt a.tmps) : ∀ {rs : List ResultVar} {l : List AV}, evResults D s rs = some l →
    ∃ vs : List Value, (List.mapM (rv a.tmps) rs).run P w = .ok vs w ∧ VRs ρ l vs
  | [], l, he => by
    simp only [evResults, Option.some.injEq] at he; subst he
    exact ⟨[], rfl, .nil⟩
  | .tmp t :: rs, l, he => by
    rw [evResults] at he
    split at he
    · rename_i l' hl
      simp only [Option.some.injEq] at he; subst he
      obtain ⟨vs, h1, h2⟩ := evResults_ok hD sim ha hl
      refine ⟨a.tmps.getD t undef :: vs, ?_, .cons (ofVal_eval ha (.tmp t)) h2⟩
      rw [List.mapM_cons, Sem.run_bind]
      show Result.andThen (.ok (a.tmps.getD t undef) w) _ = _
      rw [Result.andThen_ok, Sem.run_bind, h1, Result.andThen_ok]
      rfl
    · simp at he
  | .cell b t :: rs, l, he => by
    rw [evResults] at he
    split at he
    · rename_i v l' hv hl
      simp only [Option.some.injEq] at he; subst he
      obtain ⟨vs, h1, h2⟩ := evResults_ok hD sim ha hl
      have hx := ofVal_eval ha (.tmp b)
      have hk : ∃ y, (do loadVar t (← asAddr (a.tmps.getD b undef)) : Sem Value).run P w = .ok y w ∧ VR ρ v y := by
        have hsame : ∀ (blk off : Nat), (Instr.loadAt t (.pointer (some ⟨blk, off, none⟩))).run P w = (do loadVar t (← asAddr (.pointer (some ⟨blk, off, none⟩))) : Sem Value).run P w := fun blk off => by
          simp [Instr.loadAt, Instr.sureAddr, asAddr]
        generalize hae : a.eval (.tmp b) = av at hx
        have hae' : a.tmps.getD b undef = av := hae
        rw [hae']
        unfold evLoad at hv
        split at hv
        · rename_i id off hp
          rw [hp] at hx
          cases hx with
          | ptr _ hid =>
            rename_i e
            split at hv
            case h_2 => simp at hv
            rename_i vals own hg
            obtain ⟨e', he', ho⟩ := sim.obj id _ hg
            rw [hid] at he'; cases he'
            rw [← hsame]
            exact evLoadC_at hD ho.cr hv
        · rename_i vals off hp
          rw [hp] at hx
          cases hx with
          | vptr _ hf hx hv' =>
            rw [← hsame]
            exact evLoadC_at hD (sim.cr hf hx hv') hv
        · simp at hv
      obtain ⟨y, hy1, hy2⟩ := hk
      refine ⟨y :: vs, ?_, .cons hy2 h2⟩
      rw [List.mapM_cons, Sem.run_bind]
      show Result.andThen ((do loadVar t (← asAddr (a.tmps.getD b undef)) : Sem Value).run P w) _ = _
      rw [hy1, Result.andThen_ok, Sem.run_bind, h1, Result.andThen_ok]
      rfl
    · simp at he

theorem results_run {P : Program} {fn : Func} {tmps : Array Value} {w : World} {vs : List Value} (h : (List.mapM (rv tmps) fn.results.toList).run P w = .ok vs w) :
    (results fn tmps).run P w = .ok (if hs : vs.toArray.size = 1 then vs.toArray[0] else .tuple vs.toArray) w := by
  rw [results_eq, Sem.run_bind, Array.mapM_eq_mapM_toList, Sem.run_map, h]
  rfl

theorem argT_ok {ρ : Emb} {nt : Nat} : ∀ {as : List AV} {vs : List Value} (i : Nat) {tm : T AV} {ts : Array Value}, VRs ρ as vs → TR ρ tm nt ts → i + as.length ≤ nt → (∀ j v, vs[j]? = some v → ts.getD (i + j) undef = v) → TR ρ (argT i as tm) nt ts
  | [], _, i, tm, ts, .nil, ht, _, _ => ht
  | a :: as, _, i, tm, ts, .cons (v := v) (vs := vs) h hv, ht, hn, hg => by
    rw [argT]
    refine argT_ok (i + 1) hv ?_ (by simp at hn; omega) (fun j u hu => by rw [show i + 1 + j = i + (j + 1) by omega]; exact hg (j + 1) u (by simpa using hu))
    refine ⟨ht.1, fun k u hk => ?_⟩
    rw [T.get_set] at hk
    by_cases hki : k = i
    · subst hki
      rw [if_pos rfl] at hk
      cases hk
      have := hg 0 v rfl
      rw [Nat.add_zero] at this
      rw [this]; exact h
    · rw [if_neg hki] at hk
      exact ht.2 k u hk

def ExtOK (P : Program) (ext : FuncId → Option CallF) : Prop :=
  ∀ f e, ext f = some e → ∀ args h v h', e f args h = some (v, h') → ∀ N0 ρ w vs, Sim N0 ρ h.get w → VRs ρ args vs → Fresh ρ h.nx h'.nx →
    CallsIn Fence.wide 0 P f vs.toArray w (fun e w' => ∃ ρ' x, e = .returned x ∧ VR ρ' v x ∧ Post N0 ρ h.get h.nx w ρ' h'.get h'.nx w')

theorem evEnd_ok {D : Tab} {P : Program} (hD : D.Ok P) {N0 : Nat} {fn : Func} {s : St} {v : AV} {h' : H} (he : evEnd D fn s = some (v, h')) {ρ : Emb} {w : World} {a : Act} (sim : Sim N0 ρ s.h.get w) (ha : ActR ρ s a) {R : Ending → World → Prop}
    (hR : ∀ x w', VR ρ v x → Post N0 ρ s.h.get s.h.nx w ρ h'.get h'.nx w' → R (.returned x) w') : LeavesInM Fence.wide 0 P fn a.tmps R a.defers .returning w := by
  unfold evEnd at he
  split at he
  case h_2 => simp at he
  rename_i h1 hdef
  refine leaves_ok hdef ha.df sim fun w' hp => ?_
  have main : ∀ l, evResults D { s with h := h1 } fn.results.toList = some l → ∃ vs : List Value, (results fn a.tmps).run P w' = .ok (if hs : vs.toArray.size = 1 then vs.toArray[0] else .tuple vs.toArray) w' ∧ VRs ρ l vs := by
    intro l hl
    obtain ⟨vs, k1, k2⟩ := evResults_ok hD (s := { s with h := h1 }) (a := a) hp.sim ha.tm hl
    exact ⟨vs, results_run k1, k2⟩
  split at he
  · rename_i x hl
    simp only [Option.some.injEq, Prod.mk.injEq] at he
    obtain ⟨rfl, rfl⟩ := he
    obtain ⟨vs, k1, k2⟩ := main _ hl
    cases k2 with
    | cons hx t =>
      cases t
      exact ⟨_, k1, hR _ w' hx hp⟩
  · rename_i l hne hl
    simp only [Option.some.injEq, Prod.mk.injEq] at he
    obtain ⟨rfl, rfl⟩ := he
    obtain ⟨vs, k1, k2⟩ := main _ hl
    refine ⟨_, k1, hR _ w' ?_ hp⟩
    have hlen := k2.length
    rw [dif_neg (by
      intro hs
      simp at hs
      rw [hs] at hlen
      match l, hlen with
      | [y], _ => exact hne y rfl)]
    exact .tuple k2
  · simp at he

theorem evCall_ok {D : Tab} {P : Program} (hD : D.Ok2 P) {draws : DrawF} (hdraw : DrawOK P draws) {ext : FuncId → Option CallF} (hext : ExtOK P ext) : ∀ n, CallOK P (evCall P D draws ext n)
  | 0 => fun f args h v h' he => by simp [evCall] at he
  | n + 1 => by
    have ih := evCall_ok hD hdraw hext n
    intro f args h v h' he N0 ρ w vs sim hargs hf
    rw [evCall] at he
    split at he
    · rename_i e hx
      exact hext f e hx args h v h' he N0 ρ w vs sim hargs hf
    · split at he
      case h_2 => simp at he
      rename_i fn hfn
      split at he
      case h_2 => simp at he
      rename_i c hc
      have hcode := evCode_ok hD hdraw ih f n
      have hlen := hargs.length
      have hsize : (vs.toArray ++ Array.replicate (fn.ntmps - vs.toArray.size) undef).size = args.length + (fn.ntmps - args.length) := by simp [hlen]
      have hact : ActR ρ { tm := argT 0 args .nil, nt := args.length + (fn.ntmps - args.length), df := [], h := h } { tmps := vs.toArray ++ Array.replicate (fn.ntmps - vs.toArray.size) undef, defers := [] } := by
        refine ⟨argT_ok 0 hargs ⟨hsize, fun i v hv => by simp [T.get_nil] at hv⟩ (by show 0 + args.length ≤ args.length + (fn.ntmps - args.length); omega) (fun j v hv => ?_), .nil⟩
        rw [Nat.zero_add, Array.getD_eq_getD_getElem?, Array.getElem?_append_left (by simpa using (List.getElem?_eq_some_iff.1 hv).1)]
        simp [hv]
      have fin : ∀ e s, evCode P D draws (evCall P D draws ext n) f n none c { tm := argT 0 args .nil, nt := args.length + (fn.ntmps - args.length), df := [], h := h } = some (e, s) → (e = .normal ∨ e = .ret) → evEnd D fn s = some (v, h') →
          CallsIn Fence.wide 0 P f vs.toArray w (fun e w' => ∃ ρ' x, e = .returned x ∧ VR ρ' v x ∧ Post N0 ρ h.get h.nx w ρ' h'.get h'.nx w') := by
        intro e s hev hcase hend
        have k2 := hcode _ _ _ _ _ hev
        have hnx : s.h.nx = h'.nx := by
          unfold evEnd at hend
          split at hend
          case h_2 => simp at hend
          rename_i h1 hdef
          have hd : ∀ {df : List Nat} {a b : H}, evDefs df a = some b → a.nx = b.nx := by
            intro df
            induction df with
            | nil => intro a b h; simp only [evDefs, Option.some.injEq] at h; rw [h]
            | cons i df ih =>
              intro a b h
              rw [evDefs] at h
              split at h
              · exact ih (a := a.put i none) h
              · cases h
          have := hd hdef
          cases hr : evResults D { s with h := h1 } fn.results.toList with
          | none => rw [hr] at hend; simp at hend
          | some l =>
            rw [hr] at hend
            have h2 : h1 = h' := by
              match l, hend with
              | [], hend => simp only [Option.some.injEq, Prod.mk.injEq] at hend; exact hend.2
              | [x], hend => simp only [Option.some.injEq, Prod.mk.injEq] at hend; exact hend.2
              | x :: y :: t, hend => simp only [Option.some.injEq, Prod.mk.injEq] at hend; exact hend.2
            rw [← h2]; exact this
        refine callsIn_of_wp_marks (hD.fn f fn hfn) hc trivial ?_
        refine k2 N0 ρ _ w Fence.wide rfl sim hact (fun i a => hf i a) _ fun ρ' a' w' ha' hp => ?_
        have hl := evEnd_ok hD.toOk hend hp.sim ha' (R := fun e w'' => ∃ ρ' x, e = .returned x ∧ VR ρ' v x ∧ Post N0 ρ h.get h.nx w ρ' h'.get h'.nx w'') (fun x w'' hx hp' => ⟨ρ', x, rfl, hx, hp.trans hp'⟩)
        rcases hcase with rfl | rfl <;> exact hl
      split at he
      · rename_i s hev; exact fin _ s hev (.inl rfl) he
      · rename_i s hev; exact fin _ s hev (.inr rfl) he
      · simp at he
end Go.Rx
