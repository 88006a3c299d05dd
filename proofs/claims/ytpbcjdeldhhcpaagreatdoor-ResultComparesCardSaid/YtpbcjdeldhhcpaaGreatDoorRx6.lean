import Derived.Test.YtpbcjdeldhhcpaaGreatDoorRx5
set_option linter.unusedVariables false
set_option linter.unusedSimpArgs false
set_option linter.unusedSectionVars false
noncomputable section
namespace Go.Rx
open Go

/-! ### 16. Slices of slices -/
def optNat : Option AV → Nat → Option Nat
  | none, d => some d
  | some v, _ => natOf v
def vals? : Option AV → Option (Option Value)
  | none => some none
  | some v => match v.val with
    | some x => some (some x)
    | none => none
def evSlice (P : Program) (D : Tab) (t : TypeId) (x : AV) (lo hi : Option AV) (h : H) : Option AV :=
  match x with
  | .str s =>
    match vals? lo, vals? hi with
    | some l, some r => evPure P (Instr.sliceAt t (.string s) l r none)
    | _, _ => none
  | .slice id off len esz =>
    match D.und t, optNat lo 0, optNat hi len with
    | some (.slice e), some l, some r =>
      match D.info e with
      | some (m, _, _) => bif Nat.beq m esz then bif Nat.ble l r then bif Nat.ble r len then some (.slice id (off + l * esz) (r - l) esz) else none else none else none
      | none => none
    | _, _, _ => none
  | .nils =>
    match D.und t, optNat lo 0, optNat hi 0 with
    | some (.slice e), some 0, some 0 => match D.info e with
      | some _ => some .nils
      | none => none
    | _, _, _ => none
  | .ptr id off =>
    match D.und t, h.get id with
    | some (.array n e), some (.cells vals _) =>
      match D.info e, optNat lo 0, optNat hi n with
      | some (m, _, _), some l, some r => bif Nat.ble l r then bif Nat.ble r n then bif Nat.ble (off + n * m) vals.length then bif Nat.ble 1 (n * m) then some (.slice id (off + l * m) (r - l) m) else none else none else none else none
      | _, _, _ => none
    | _, _ => none
  | .view vals off len esz =>
    match D.und t, optNat lo 0, optNat hi len with
    | some (.slice e), some l, some r =>
      match D.info e with
      | some (m, _, _) => bif Nat.beq m esz then bif Nat.ble l r then bif Nat.ble r len then some (.view vals (off + l * esz) (r - l) esz) else none else none else none
      | none => none
    | _, _, _ => none
  | _ => none

inductive OV (ρ : Emb) : Option AV → Option Value → Prop
  | none : OV ρ none none
  | some {a : AV} {v : Value} (h : VR ρ a v) : OV ρ (some a) (some v)

theorem vals?_rel {ρ : Emb} {a : Option AV} {v : Option Value} {r : Option Value} (h : OV ρ a v) (he : vals? a = some r) : v = r := by
  cases h with
  | none => simpa [vals?] using he
  | some hv =>
    simp only [vals?] at he
    split at he
    · rename_i x hx
      simp only [Option.some.injEq] at he
      rw [← he, AV.val_rel hv _ hx]
    · simp at he
theorem optNat_rel {ρ : Emb} {a : Option AV} {v : Option Value} {d n : Nat} (h : OV ρ a v) (he : optNat a d = some n) : (v = none ∧ n = d) ∨ ∃ k, v = some (.int k (n : Int)) := by
  cases h with
  | none => simp only [optNat, Option.some.injEq] at he; exact .inl ⟨rfl, he.symm⟩
  | some hv =>
    obtain ⟨k, hk⟩ := natOf_rel hv he
    exact .inr ⟨k, by rw [hk]⟩

theorem run_bounds {P : Program} {w : World} {ρ : Emb} {lo hi : Option AV} {lo' hi' : Option Value} {len cap l r : Nat} (isSlice : Bool) (h1 : OV ρ lo lo') (h2 : OV ρ hi hi') (hl : optNat lo 0 = some l) (hr : optNat hi len = some r) (hlr : l ≤ r) (hrc : r ≤ cap) :
    (Instr.sliceBounds isSlice len cap lo' hi' none).run P w = .ok (l, r, cap) w := by
  rcases optNat_rel h1 hl with ⟨rfl, rfl⟩ | ⟨k, rfl⟩ <;> rcases optNat_rel h2 hr with ⟨rfl, rfl⟩ | ⟨k', rfl⟩
  · simp [Instr.sliceBounds]
  · simp [Instr.sliceBounds, Instr.sliceBound, asIntOf, hrc]
  · simp [Instr.sliceBounds, Instr.sliceBound, asIntOf, hlr]
  · simp [Instr.sliceBounds, Instr.sliceBound, asIntOf, hlr, hrc]

theorem evSlice_ok {D : Tab} {P : Program} (hD : D.Ok P) {N0 : Nat} {ρ : Emb} {h : H} {w : World} {t : TypeId} {x r : AV} {lo hi : Option AV} {a : Value} {lo' hi' : Option Value} (s : Sim N0 ρ h.get w) (hx : VR ρ x a) (h1 : OV ρ lo lo') (h2 : OV ρ hi hi') (he : evSlice P D t x lo hi h = some r) :
    ROk P N0 ρ h.get h.nx w (Instr.sliceAt t a lo' hi' none) r h.get h.nx := by
  unfold evSlice at he
  split at he
  · split at he
    case h_2 => simp at he
    rename_i s' _ _ l r' hl hr
    have e1 := vals?_rel h1 hl
    have e2 := vals?_rel h2 hr
    subst e1 e2
    cases hx
    exact evPure_ok s he
  · rename_i id off len esz
    split at he
    case h_2 => simp at he
    rename_i e l rr hu hl hr
    split at he
    case h_2 => simp at he
    rename_i m b z hif
    cases q1 : Nat.beq m esz with
    | false => simp [q1] at he
    | true =>
    cases q2 : Nat.ble l rr with
    | false => simp [q1, q2] at he
    | true =>
    cases q3 : Nat.ble rr len with
    | false => simp [q1, q2, q3] at he
    | true =>
      simp only [q1, q2, q3, cond_true, Option.some.injEq] at he
      subst he
      have hm := Nat.eq_of_beq_eq_true q1
      subst hm
      have hlr := Nat.le_of_ble_eq_true q2
      have hrl := Nat.le_of_ble_eq_true q3
      cases hx with
      | slice _ _ cap _ hid hlc hb =>
        rename_i e'
        have hrun := run_bounds (P := P) (w := w) (cap := cap) true h1 h2 hl hr hlr (by omega)
        have hres : (Instr.sliceAt t (.slice (some ⟨e'.blk, e'.base + off, none⟩) len cap) lo' hi' none).run P w = .ok (.slice (if cap = l then some ⟨e'.blk, e'.base + off, none⟩ else some ⟨e'.blk, e'.base + off + l * m, none⟩) (rr - l) (cap - l)) w := by
          simp [Instr.sliceAt, run_und hD hu, Instr.slice, hrun, run_size hD hif, add_at]
        by_cases hc : cap = l
        · refine .pure s _ hres ?_
          rw [if_pos hc, show rr - l = 0 by omega, show cap - l = 0 by omega]
          exact .slice0 _
        · refine .pure s _ hres ?_
          rw [if_neg hc]
          have hmul : (cap - l) * m + l * m = cap * m := by rw [← Nat.add_mul]; congr 1; omega
          have := VR.slice (ρ := ρ) (id := id) (e := e') (off + l * m) (rr - l) (cap - l) m hid (by omega) (by omega)
          simpa [Nat.add_assoc] using this
      | slice0 ad =>
        have hl0 : l = 0 := by omega
        have hr0 : rr = 0 := by omega
        subst hl0 hr0
        have hrun := run_bounds (P := P) (w := w) (cap := 0) true h1 h2 hl hr (Nat.le_refl _) (Nat.le_refl _)
        refine .pure s (.slice (some ad) 0 0) ?_ (by simpa using VR.slice0 (ρ := ρ) (id := id) (off := off + 0 * m) (esz := m) ad)
        simp [Instr.sliceAt, run_und hD hu, Instr.slice, hrun, run_size hD hif]
  · split at he
    case h_2 => simp at he
    rename_i e hu hl hr
    split at he
    case h_2 => simp at he
    rename_i mbz hif
    obtain ⟨m, b, z⟩ := mbz
    simp only [Option.some.injEq] at he
    subst he
    cases hx
    have hrun := run_bounds (P := P) (w := w) (cap := 0) true h1 h2 hl hr (Nat.le_refl _) (Nat.le_refl _)
    refine .pure s (.slice none 0 0) ?_ .nils
    simp [Instr.sliceAt, run_und hD hu, Instr.slice, hrun, run_size hD hif]
  · rename_i id off
    split at he
    case h_2 => simp at he
    rename_i n e vals own hu hg
    split at he
    case h_2 => simp at he
    rename_i m b z l rr hif hl hr
    cases q2 : Nat.ble l rr with
    | false => simp [q2] at he
    | true =>
    cases q3 : Nat.ble rr n with
    | false => simp [q2, q3] at he
    | true =>
    cases q4 : Nat.ble (off + n * m) vals.length with
    | false => simp [q2, q3, q4] at he
    | true =>
    cases q5 : Nat.ble 1 (n * m) with
    | false => simp [q2, q3, q4, q5] at he
    | true =>
      simp only [q2, q3, q4, q5, cond_true, Option.some.injEq] at he
      subst he
      have hlr := Nat.le_of_ble_eq_true q2
      have hrl := Nat.le_of_ble_eq_true q3
      have hfit := Nat.le_of_ble_eq_true q4
      have hpos := Nat.le_of_ble_eq_true q5
      cases hx with
      | ptr _ hid =>
        rename_i e'
        have hrun := run_bounds (P := P) (w := w) (cap := n) false h1 h2 hl hr hlr hrl
        obtain ⟨e2, he2, ho⟩ := s.obj id _ hg
        rw [hid] at he2; cases he2
        obtain ⟨c, et, fr, hc, hsz, _, _, hcell⟩ := ho
        obtain ⟨y, hy, _⟩ := hcell (off + n * m - 1) (vals[off + n * m - 1]'(by omega)) (List.getElem?_eq_getElem _)
        have hlt := (Array.getElem?_eq_some_iff.1 hy).1
        have hres : (Instr.sliceAt t (.pointer (some ⟨e'.blk, e'.base + off, none⟩)) lo' hi' none).run P w = .ok (.slice (some (if n = l then ⟨e'.blk, e'.base + off, none⟩ else ⟨e'.blk, e'.base + off + l * m, none⟩)) (rr - l) (n - l)) w := by
          simp [Instr.sliceAt, run_und hD hu, Instr.sureAddr, hrun, run_size hD hif, add_at]
        by_cases hc' : n = l
        · refine .pure s _ hres ?_
          rw [if_pos hc', show rr - l = 0 by omega, show n - l = 0 by omega]
          exact .slice0 _
        · refine .pure s _ hres ?_
          rw [if_neg hc']
          have hmul : (n - l) * m + l * m = n * m := by rw [← Nat.add_mul]; congr 1; omega
          have := VR.slice (ρ := ρ) (id := id) (e := e') (off + l * m) (rr - l) (n - l) m hid (by omega) (by omega)
          simpa [Nat.add_assoc] using this
  · rename_i vals off len esz
    split at he
    case h_2 => simp at he
    rename_i e l rr hu hl hr
    split at he
    case h_2 => simp at he
    rename_i m b z hif
    cases q1 : Nat.beq m esz with
    | false => simp [q1] at he
    | true =>
    cases q2 : Nat.ble l rr with
    | false => simp [q1, q2] at he
    | true =>
    cases q3 : Nat.ble rr len with
    | false => simp [q1, q2, q3] at he
    | true =>
      simp only [q1, q2, q3, cond_true, Option.some.injEq] at he
      subst he
      have hm := Nat.eq_of_beq_eq_true q1
      subst hm
      have hlr := Nat.le_of_ble_eq_true q2
      have hrl := Nat.le_of_ble_eq_true q3
      cases hx with
      | view _ _ cap _ hf hxx hv hlc hb =>
        rename_i xs b' base c et fr
        have hrun := run_bounds (P := P) (w := w) (cap := cap) true h1 h2 hl hr hlr (by omega)
        have hres : (Instr.sliceAt t (.slice (some ⟨b', base + off, none⟩) len cap) lo' hi' none).run P w = .ok (.slice (if cap = l then some ⟨b', base + off, none⟩ else some ⟨b', base + off + l * m, none⟩) (rr - l) (cap - l)) w := by
          simp [Instr.sliceAt, run_und hD hu, Instr.slice, hrun, run_size hD hif, add_at]
        by_cases hc : cap = l
        · refine .pure s _ hres ?_
          rw [if_pos hc, show rr - l = 0 by omega, show cap - l = 0 by omega]
          exact .view0 _
        · refine .pure s _ hres ?_
          rw [if_neg hc]
          have hmul : (cap - l) * m + l * m = cap * m := by rw [← Nat.add_mul]; congr 1; omega
          have := VR.view (ρ := ρ) (vals := vals) (off + l * m) (rr - l) (cap - l) m hf hxx hv (by omega) (by omega)
          simpa [Nat.add_assoc] using this
      | view0 ad =>
        have hl0 : l = 0 := by omega
        have hr0 : rr = 0 := by omega
        subst hl0 hr0
        have hrun := run_bounds (P := P) (w := w) (cap := 0) true h1 h2 hl hr (Nat.le_refl _) (Nat.le_refl _)
        refine .pure s (.slice (some ad) 0 0) ?_ (by simpa using VR.view0 (ρ := ρ) (vals := vals) (off := off + 0 * m) (esz := m) ad)
        simp [Instr.sliceAt, run_und hD hu, Instr.slice, hrun, run_size hD hif]
      | viewN =>
        have hl0 : l = 0 := by omega
        have hr0 : rr = 0 := by omega
        subst hl0 hr0
        have hrun := run_bounds (P := P) (w := w) (cap := 0) true h1 h2 hl hr (Nat.le_refl _) (Nat.le_refl _)
        refine .pure s (.slice none 0 0) ?_ (by simpa using VR.viewN (ρ := ρ) (vals := vals) (off := off + 0 * m) (esz := m))
        simp [Instr.sliceAt, run_und hD hu, Instr.slice, hrun, run_size hD hif]
  · simp at he

/-! ### 17. make -/
def evMakeSlice (D : Tab) (t : TypeId) (l c : AV) (h : H) : Option (AV × H) :=
  match D.und t, natOf l, natOf c with
  | some (.slice e), some len, some cap =>
    match D.info e with
    | some (n, b, z) => bif Nat.ble len cap then bif Nat.ble (b * cap) 1099511627776 then bif Nat.ble cap 1099511627776 then some (.slice h.nx 0 len n, h.new (.cells (madeA (zc z) (cap * n)) true)) else none else none else none
    | none => none
  | _, _, _ => none
theorem evMakeSlice_ok {D : Tab} {P : Program} (hD : D.Ok P) {N0 : Nat} {ρ : Emb} {h h' : H} {w : World} {t : TypeId} {l c r : AV} {l' c' : Value} (s : Sim N0 ρ h.get w) (hl : VR ρ l l') (hc : VR ρ c c') (he : evMakeSlice D t l c h = some (r, h')) (hf : Fresh ρ h.nx h'.nx) :
    ROk P N0 ρ h.get h.nx w (Instr.makeSlice t l' c') r h'.get h'.nx := by
  unfold evMakeSlice at he
  split at he
  case h_2 => simp at he
  rename_i e len cap hu hln hcn
  obtain ⟨k1, rfl⟩ := natOf_rel hl hln
  obtain ⟨k2, rfl⟩ := natOf_rel hc hcn
  split at he
  case h_2 => simp at he
  rename_i n b z hi
  cases q1 : Nat.ble len cap with
  | false => simp [q1] at he
  | true =>
  cases q2 : Nat.ble (b * cap) 1099511627776 with
  | false => simp [q1, q2] at he
  | true =>
  cases q3 : Nat.ble cap 1099511627776 with
  | false => simp [q1, q2, q3] at he
  | true =>
    simp only [q1, q2, q3, cond_true, Option.some.injEq, Prod.mk.injEq] at he
    obtain ⟨rfl, rfl⟩ := he
    have h1 := Nat.le_of_ble_eq_true q1
    have h2 := Nat.le_of_ble_eq_true q2
    have h3 := Nat.le_of_ble_eq_true q3
    obtain ⟨i, hi1, hi2, hi3, hi4⟩ := hD.info e n b z hi
    have hn : ρ h.nx = none := hf h.nx (Nat.le_refl _)
    have hrun := run_make (P := P) w t e i z (hD.und _ _ hu) hi1 hi4 k1 k2 (len : Int) (cap : Int) (by omega) (by omega) (by
      rw [hi3]
      have hbc : ((b * cap : Nat) : Int) ≤ 1099511627776 := by omega
      rw [Int.natCast_mul] at hbc
      omega) (by omega)
    have hrel := madeA_rel (ρ := ρ) z (cap * n)
    have hsz : ((Array.range (cap * n)).map (z.cells[· % z.cells.size]!)).size = cap * n := by simp
    refine ⟨ρ.upd h.nx ⟨w.heap.size, 0, cap * n⟩, _, _, hrun, ?_, ?_⟩
    · have := VR.slice (ρ := ρ.upd h.nx ⟨w.heap.size, 0, cap * n⟩) (id := h.nx) (e := ⟨w.heap.size, 0, cap * n⟩) 0 len cap n (Emb.upd_same _ _ _) h1 (by simp)
      simpa using this
    · have hp := Post.cells s hn _ hrel e
      rw [hsz] at hp
      simp only [Int.toNat_natCast, hi2]
      exact hp.weaken (h.new_sub _) (Nat.le_refl _)

def evMakeMap (r : Option AV) (h : H) : Option (AV × H) :=
  match r with
  | none => some (.map h.nx, h.new (.map [] 0))
  | some _ => none
theorem evMakeMap_ok {P : Program} {N0 : Nat} {ρ : Emb} {h h' : H} {w : World} {t : TypeId} {r : AV} {o : Option AV} {o' : Option Value} (s : Sim N0 ρ h.get w) (ho : OV ρ o o') (he : evMakeMap o h = some (r, h')) (hf : Fresh ρ h.nx h'.nx) :
    ROk P N0 ρ h.get h.nx w (Instr.makeMap t o') r h'.get h'.nx := by
  unfold evMakeMap at he
  split at he
  · simp only [Option.some.injEq, Prod.mk.injEq] at he
    obtain ⟨rfl, rfl⟩ := he
    cases ho
    have hn : ρ h.nx = none := hf h.nx (Nat.le_refl _)
    refine ⟨ρ.upd h.nx ⟨w.heap.size, 0, 0⟩, .map (some w.heap.size), w.alloc (.map #[] 0), ?_, ?_, ?_⟩
    · simp [Instr.makeMap, newObj, Sem.run]
    · exact VR.map (e := ⟨w.heap.size, 0, 0⟩) (Emb.upd_same _ _ _)
    · exact (Post.new s hn ⟨w.heap.size, 0, 0⟩ (.map [] 0) _ rfl rfl ⟨#[], heap_alloc_new w _, s.base, .nil⟩).weaken (h.new_sub _) (Nat.le_refl _)
  · simp at he

/-! ### 18. Tuples; len -/
def evExtract (x : AV) (i : Nat) : Option AV :=
  match x with
  | .tuple vs => vs[i]?
  | _ => none
theorem evExtract_ok {P : Program} {N0 : Nat} {ρ : Emb} {h : Hp} {nx : Nat} {w : World} {x r : AV} {a : Value} {i : Nat} (s : Sim N0 ρ h w) (hx : VR ρ x a) (he : evExtract x i = some r) : ROk P N0 ρ h nx w (Instr.extract a i) r h nx := by
  unfold evExtract at he
  split at he
  · cases hx with
    | tuple hr =>
      obtain ⟨y, hy, hry⟩ := hr.get _ _ he
      exact .pure s y (by simp [Instr.extract, hy]) hry
  · simp at he

def evLen (P : Program) (D : Tab) (ts : Array TypeId) (ty : TypeId) (x : AV) (h : H) : Option AV :=
  match x, ts[0]? with
  | .slice _ _ len _, some t => match D.und t with
    | some (.slice _) => some (.int .i64 len)
    | _ => none
  | .nils, some t => match D.und t with
    | some (.slice _) => some (.int .i64 0)
    | _ => none
  | .view _ _ len _, some t => match D.und t with
    | some (.slice _) => some (.int .i64 len)
    | _ => none
  | .map id, some t => match D.und t, h.get id with
    | some (.map _ _), some (.map es _) => some (.int .i64 es.length)
    | _, _ => none
  | .str s, _ => evPure P (Builtin.len_ ts ty #[.string s])
  | .ptr _ _, some t => match D.und t with
    | some (.array n _) => some (.int .i64 n)
    | some (.pointer a) => match D.und a with
      | some (.array n _) => some (.int .i64 n)
      | _ => none
    | _ => none
  | .agg _, some t => match D.und t with
    | some (.array n _) => some (.int .i64 n)
    | _ => none
  | _, _ => none
theorem MR.length {ρ : Emb} : ∀ {a : List (AV × AV × Nat)} {v : List MapEntry}, MR ρ a v → a.length = v.length
  | _, _, .nil => rfl
  | _, _, .cons _ _ _ t => by simp [MR.length t]
theorem evLen_ok {D : Tab} {P : Program} (hD : D.Ok P) {N0 : Nat} {ρ : Emb} {h : H} {w : World} {ts : Array TypeId} {ty : TypeId} {x r : AV} {a : Value} (s : Sim N0 ρ h.get w) (hx : VR ρ x a) (he : evLen P D ts ty x h = some r) :
    ROk P N0 ρ h.get h.nx w (Builtin.len_ ts ty #[a]) r h.get h.nx := by
  unfold evLen at he
  split at he
  · rename_i ht
    split at he
    · rename_i hu
      simp only [Option.some.injEq] at he; subst he
      cases hx <;> exact .pure s (goInt _) (by simp [Builtin.len_, ht, run_und hD hu]) (.int _ _)
    · simp at he
  · rename_i ht
    split at he
    · rename_i hu
      simp only [Option.some.injEq] at he; subst he
      cases hx
      exact .pure s (goInt _) (by simp [Builtin.len_, ht, run_und hD hu]) (.int _ _)
    · simp at he
  · rename_i ht
    split at he
    · rename_i hu
      simp only [Option.some.injEq] at he; subst he
      cases hx <;> exact .pure s (goInt _) (by simp [Builtin.len_, ht, run_und hD hu]) (.int _ _)
    · simp at he
  · rename_i ht
    split at he
    · rename_i es clk hu hg
      simp only [Option.some.injEq] at he; subst he
      obtain ⟨e, he', ho⟩ := s.obj _ _ hg
      obtain ⟨fs, hb, _, hm⟩ := ho
      cases hx with
      | map hid =>
        rw [hid] at he'; cases he'
        have hl := hm.length
        simp at hl
        exact .pure s (goInt (fs.size : Int)) (by simp [Builtin.len_, ht, run_und hD hu, getObj, Sem.run, hb]) (by rw [hl]; exact .int _ _)
    · simp at he
  · cases hx
    exact evPure_ok s he
  · rename_i ht
    split at he
    · rename_i hu
      simp only [Option.some.injEq] at he; subst he
      exact .pure s (goInt _) (by simp [Builtin.len_, ht, run_und hD hu]) (.int _ _)
    · rename_i a' hu
      split at he
      · rename_i hu2
        simp only [Option.some.injEq] at he; subst he
        exact .pure s (goInt _) (by simp [Builtin.len_, ht, run_und hD hu, run_und hD hu2]) (.int _ _)
      · simp at he
    · simp at he
  · rename_i ht
    split at he
    · rename_i hu
      simp only [Option.some.injEq] at he; subst he
      exact .pure s (goInt _) (by simp [Builtin.len_, ht, run_und hD hu]) (.int _ _)
    · simp at he
  · simp at he
end Go.Rx
