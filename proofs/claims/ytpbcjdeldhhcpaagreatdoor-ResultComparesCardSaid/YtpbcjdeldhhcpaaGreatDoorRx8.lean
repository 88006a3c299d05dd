import Derived.Test.YtpbcjdeldhhcpaaGreatDoorRx7
set_option linter.unusedVariables false
set_option linter.unusedSimpArgs false
set_option linter.unusedSectionVars false
noncomputable section
namespace Go.Rx
open Go

/-! ### 21. append -/
def newsOf (m : Nat) (y : AV) (h : H) : Option (Nat × List AV) :=
  match y with
  | .nils => some (0, [])
  | .slice id off len esz =>
    match len with
    | 0 => some (0, [])
    | len + 1 =>
      bif Nat.beq m esz then
        match h.get id with
        | some (.cells vals _) => match seg vals off ((len + 1) * m) with
          | some l => some (len + 1, l)
          | none => none
        | _ => none
      else none
  | .view vals off len esz =>
    bif Nat.beq m esz then
      match seg vals off (len * m) with
      | some l => some (len, l)
      | none => none
    else none
  | _ => none
def lim : Nat := 1099511627776
def evAppend (D : Tab) (ts : Array TypeId) (x y : AV) (h : H) : Option (AV × H) :=
  match ts[0]?, ts[1]? with
  | some t, some u =>
    match D.und t, D.und u with
    | some (.slice e), some (.slice _) =>
      match D.info e with
      | some (m, b, z) =>
        match newsOf m y h with
        | some (n, news) =>
          bif (bif allOne news then Nat.beq z.cells.size m else false) then
            match x with
            | .nils =>
              bif Nat.beq n 0 then some (.nils, h)
              else bif Nat.ble (n * b) lim then bif Nat.ble n lim then some (.slice h.nx 0 n m, h.new (.cells news true)) else none else none
            | .slice id off len esz =>
              bif Nat.beq m esz then
                bif Nat.beq n 0 then some (.slice id off len esz, h)
                else bif Nat.ble ((len + n) * b) lim then bif Nat.ble (len + n) lim then bif Nat.ble 1 m then
                  match h.get id with
                  | some (.cells vals true) => match seg vals off (len * m) with
                    | some olds => some (.slice h.nx 0 (len + n) m, (h.put id none).new (.cells (olds ++ news) true))
                    | none => none
                  | _ => none
                else none else none else none
              else none
            | _ => none
          else none
        | none => none
      | none => none
    | _, _ => none
  | _, _ => none

theorem OR.drew {N0 : Nat} {ρ : Emb} {w : World} {e : E} {o : AO} (h : OR N0 ρ w e o) : OR N0 ρ w.drew e o := h.same (Emb.le_refl _) rfl
theorem Sim.drew {N0 : Nat} {ρ : Emb} {h : Hp} {w : World} (s : Sim N0 ρ h w) : Sim N0 ρ h w.drew := (Post.drew (nx := 0) s (w.drawn + 1)).sim

/-- What is appended: how many elements, and their cells in the world, before and behind a draw. -/
theorem newsOf_ok {P : Program} {N0 : Nat} {ρ : Emb} {h : H} {w : World} {m n : Nat} {y : AV} {b : Value} {news : List AV} (s : Sim N0 ρ h.get w) (hy : VR ρ y b) (hn : newsOf m y h = some (n, news)) :
    ∃ (ya : Option Addr) (yc : Nat) (xs : List Value), b = .slice ya n yc ∧ VRs ρ news xs ∧ xs.length = n * m ∧ (Builtin.firstCells m n b).run P w = .ok xs.toArray w ∧ (Builtin.firstCells m n b).run P w.drew = .ok xs.toArray w.drew := by
  have zero : ∀ (ya : Option Addr) (yc : Nat) (W : World), (Builtin.firstCells m 0 (.slice ya 0 yc)).run P W = .ok #[] W := by
    intro ya yc W
    cases ya <;> simp [Builtin.firstCells, loadCells, loadCellsFrom]
  unfold newsOf at hn
  split at hn
  · simp only [Option.some.injEq, Prod.mk.injEq] at hn
    obtain ⟨rfl, rfl⟩ := hn
    cases hy
    exact ⟨none, 0, [], rfl, .nil, by simp, zero _ _ _, zero _ _ _⟩
  · rename_i id off len esz
    split at hn
    · simp only [Option.some.injEq, Prod.mk.injEq] at hn
      obtain ⟨rfl, rfl⟩ := hn
      cases hy with
      | slice _ _ cap _ hid hl hb => exact ⟨_, cap, [], rfl, .nil, by simp, zero _ _ _, zero _ _ _⟩
      | slice0 a => exact ⟨_, 0, [], rfl, .nil, by simp, zero _ _ _, zero _ _ _⟩
    · rename_i len
      cases q : Nat.beq m esz with
      | false => simp [q] at hn
      | true =>
        simp only [q, cond_true] at hn
        split at hn
        · rename_i vals own hg
          split at hn
          · rename_i l hs
            simp only [Option.some.injEq, Prod.mk.injEq] at hn
            obtain ⟨rfl, rfl⟩ := hn
            obtain ⟨e, he, ho⟩ := s.obj _ _ hg
            obtain ⟨xs, h1, h2, h3⟩ := ho.seg hs
            cases hy with
            | slice _ _ cap _ hid hl hb =>
              rw [hid] at he; cases he
              exact ⟨_, cap, xs, rfl, h2, h1, run_firstCells_some w m _ _ _ _ xs h1 h3, run_firstCells_some w.drew m _ _ _ _ xs h1 h3⟩
          · simp at hn
        · simp at hn
  · rename_i vals off len esz
    cases q : Nat.beq m esz with
    | false => simp [q] at hn
    | true =>
      simp only [q, cond_true] at hn
      split at hn
      · rename_i l hs
        simp only [Option.some.injEq, Prod.mk.injEq] at hn
        obtain ⟨rfl, rfl⟩ := hn
        have nought : ∀ (ya : Option Addr), len = 0 → ∃ xs : List Value, VRs ρ l xs ∧ xs.length = len * m ∧ (Builtin.firstCells m len (.slice ya len 0)).run P w = .ok xs.toArray w ∧ (Builtin.firstCells m len (.slice ya len 0)).run P w.drew = .ok xs.toArray w.drew := fun ya h0 => by
          subst h0
          have hl := (seg_spec hs).1
          rw [Nat.zero_mul] at hl
          have : l = [] := List.eq_nil_of_length_eq_zero hl
          subst this
          exact ⟨[], .nil, by simp, zero _ _ _, zero _ _ _⟩
        cases hy with
        | view _ _ cap _ hf hx hv hl hb =>
          obtain ⟨xs, h1, h2, h3⟩ := (s.cr hf hx hv).seg hs
          cases len with
          | zero =>
            rw [Nat.zero_mul] at h1
            have : xs = [] := List.eq_nil_of_length_eq_zero h1
            subst this
            exact ⟨_, cap, [], rfl, h2, by simp, zero _ _ _, zero _ _ _⟩
          | succ len => exact ⟨_, cap, xs, rfl, h2, h1, run_firstCells_some w m _ _ _ _ xs h1 h3, run_firstCells_some w.drew m _ _ _ _ xs h1 h3⟩
        | view0 a =>
          obtain ⟨xs, k1, k2, k3, k4⟩ := nought (some a) rfl
          exact ⟨_, 0, xs, rfl, k1, k2, k3, k4⟩
        | viewN =>
          obtain ⟨xs, k1, k2, k3, k4⟩ := nought none rfl
          exact ⟨_, 0, xs, rfl, k1, k2, k3, k4⟩
      · simp at hn
  · simp at hn

section
variable {D : Tab} {P : Program} (hD : D.Ok P) {w : World} {ts : Array TypeId} {ty t u e e' : TypeId} {m b : Nat} {z : Value} (h0 : ts[0]? = some t) (h1 : ts[1]? = some u) (ht : D.und t = some (.slice e)) (hu : D.und u = some (.slice e')) (hi : D.info e = some (m, b, z))
include hD h0 h1 ht hu hi
/-- There is room. -/
theorem run_append_in {base : Option Addr} {sLen sCap n yc : Nat} {ya : Option Addr} {xs : List Value} (hf : (Builtin.firstCells m n (.slice ya n yc)).run P w = .ok xs.toArray w) (hroom : sLen + n ≤ sCap) {w' : World}
    (hst : ∀ a, base = some a → (storeCells (a.add (sLen * m)) xs).run P w = .ok () w') (hno : base = none → w' = w) :
    (Builtin.append_ ts ty #[.slice base sLen sCap, .slice ya n yc]).run P w = .ok (.slice base (sLen + n) sCap) w' := by
  obtain ⟨i, hi1, hi2, hi3, hi4⟩ := hD.info _ _ _ _ hi
  cases base with
  | none =>
    rw [hno rfl]
    simp [Builtin.append_, h0, h1, run_und hD ht, run_und hD hu, run_size hD hi, Builtin.lenOf, hroom, hf]
  | some a =>
    have := hst a rfl
    simp [Builtin.append_, h0, h1, run_und hD ht, run_und hD hu, run_size hD hi, Builtin.lenOf, hroom, hf, this]
/-- There is none. -/
theorem run_append_out {base : Option Addr} {sLen sCap n yc : Nat} {ya : Option Addr} {xs olds : List Value} (hf : (Builtin.firstCells m n (.slice ya n yc)).run P w.drew = .ok xs.toArray w.drew) (hfo : (Builtin.firstCells m sLen (.slice base sLen sCap)).run P w.drew = .ok olds.toArray w.drew)
    (hroom : sCap < sLen + n) (h63 : sLen + n ≤ 1099511627776) (hb : (sLen + n) * b ≤ 1099511627776) :
    (Builtin.append_ ts ty #[.slice base sLen sCap, .slice ya n yc]).run P w =
      .ok (.slice (some ⟨w.heap.size, 0, none⟩) (sLen + n) (grownCap w (sLen + n) sCap e)) (w.drew.alloc (.cells (olds.toArray ++ xs.toArray ++ Builtin.zeroCells z.cells (grownCap w (sLen + n) sCap e - (sLen + n))) e)) := by
  obtain ⟨i, hi1, hi2, hi3, hi4⟩ := hD.info _ _ _ _ hi
  have hn : ¬ (sLen + n ≤ sCap) := by omega
  have h63' : ¬ (9223372036854775807 < ((sLen : Int) + (n : Int))) := by omega
  have hfit : Builtin.nextslicecap (sLen + n) sCap * i.bytes ≤ 281474976710656 := growslice_fits hroom (by rw [hi3]; omega)
  have h48' : ¬ (281474976710656 < Builtin.nextslicecap (sLen + n) sCap * i.bytes) := by omega
  simp [Builtin.append_, h0, h1, run_und hD ht, run_und hD hu, run_size hD hi, run_zero hD hi, typeInfo, hi1, Builtin.lenOf, hn, h63', h48', Question.forced, hf, hfo, newRow, grownCap]
  congr 2
  apply Array.ext'
  simp
end

theorem evAppend_ok {D : Tab} {P : Program} (hD : D.Ok P) {N0 : Nat} {ρ : Emb} {h h' : H} {w : World} {ts : Array TypeId} {ty : TypeId} {x y r : AV} {a b : Value} (s : Sim N0 ρ h.get w) (hx : VR ρ x a) (hy : VR ρ y b) (he : evAppend D ts x y h = some (r, h')) (hf : Fresh ρ h.nx h'.nx) :
    ROk P N0 ρ h.get h.nx w (Builtin.append_ ts ty #[a, b]) r h'.get h'.nx := by
  unfold evAppend at he
  split at he
  case h_2 => simp at he
  rename_i t u h0 h1
  split at he
  case h_2 => simp at he
  rename_i e e' ht hu
  split at he
  case h_2 => simp at he
  rename_i m by' z hi
  split at he
  case h_2 => simp at he
  rename_i n news hnews
  cases q1 : allOne news with
  | false => simp [q1] at he
  | true =>
  cases q2 : Nat.beq z.cells.size m with
  | false => simp [q1, q2] at he
  | true =>
  simp only [q1, q2, cond_true] at he
  have hzs := Nat.eq_of_beq_eq_true q2
  obtain ⟨ya, yc, xs, rfl, hr, hxl, hf1, hf2⟩ := newsOf_ok (P := P) s hy hnews
  have hone := hr.oneCell q1
  have hnl := hr.length
  -- a new row, behind a draw
  have grow : ∀ (olds : List AV) (ox : List Value) (base : Option Addr) (sLen sCap : Nat) (hp : H), VRs ρ olds ox → ox.length = sLen * m → (Builtin.firstCells m sLen (.slice base sLen sCap)).run P w.drew = .ok ox.toArray w.drew → sCap < sLen + n → sLen + n ≤ 1099511627776 → (sLen + n) * by' ≤ 1099511627776 →
      ρ h.nx = none → hp.nx = h.nx → (∀ i o, hp.get i = some o → h.get i = some o) → ROk P N0 ρ h.get h.nx w (Builtin.append_ ts ty #[.slice base sLen sCap, .slice ya n yc]) (.slice h.nx 0 (sLen + n) m) (hp.new (.cells (olds ++ news) true)).get (hp.new (.cells (olds ++ news) true)).nx := by
    intro olds ox base sLen sCap hp ho hol hfo hroom hn1 hn2 hnx hpn hsub
    have hrun := run_append_out hD h0 h1 (ty := ty) ht hu hi hf2 hfo hroom hn1 hn2
    have hge := grownCap_ge w (sLen + n) sCap e
    generalize grownCap w (sLen + n) sCap e = cap at hrun hge
    have hcells : VRs ρ (olds ++ news) (ox ++ xs) := ho.append hr
    have hsz : (ox.toArray ++ xs.toArray ++ Builtin.zeroCells z.cells (cap - (sLen + n))).size = cap * m := by
      simp only [Array.size_append, List.size_toArray, size_zeroCells, hzs, hol, hxl, ← Nat.add_mul]
      congr 1
      omega
    refine ⟨ρ.upd h.nx ⟨w.heap.size, 0, cap * m⟩, _, _, hrun, ?_, ?_⟩
    · have := VR.slice (ρ := ρ.upd h.nx ⟨w.heap.size, 0, cap * m⟩) (id := h.nx) (e := ⟨w.heap.size, 0, cap * m⟩) 0 (sLen + n) cap m (Emb.upd_same _ _ _) hge (by simp)
      simpa using this
    · have hnew : Post N0 ρ hp.get h.nx w.drew (ρ.upd h.nx ⟨w.heap.size, 0, cap * m⟩) (Hp.upd hp.get h.nx (.cells (olds ++ news) true)) (h.nx + 1) (w.drew.alloc (.cells (ox.toArray ++ xs.toArray ++ Builtin.zeroCells z.cells (cap - (sLen + n))) e)) := by
        refine Post.new (s.drew.sub hsub) hnx ⟨w.heap.size, 0, cap * m⟩ _ _ rfl rfl ⟨_, e, (0, 0), heap_alloc_new w.drew _, hsz, fun _ => ⟨s.base, rfl⟩, fun h => by simp at h, fun j v hv => ?_⟩
        obtain ⟨y', hy', hr'⟩ := hcells.get j v hv
        refine ⟨y', ?_, hr'.mono (Emb.le_upd _ hnx)⟩
        have hj : j < (ox ++ xs).length := (List.getElem?_eq_some_iff.1 hy').1
        simp only [Nat.zero_add]
        rw [Array.getElem?_append_left (by simp at hj ⊢; omega)]
        simpa using hy'
      have hd := (Post.drew (nx := h.nx) s (w.drawn + 1)).weaken hsub (Nat.le_refl _)
      have htot := hd.trans hnew
      have hnn : (hp.new (.cells (olds ++ news) true)).nx = h.nx + 1 := by rw [← hpn]; rfl
      rw [hnn]
      have hns := hp.new_sub (.cells (olds ++ news) true)
      rw [hpn] at hns
      exact htot.weaken hns (Nat.le_refl _)
  split at he
  · cases hx
    cases p1 : Nat.beq n 0 with
    | true =>
      have hn0 := Nat.eq_of_beq_eq_true p1
      subst hn0
      simp only [p1, cond_true, Option.some.injEq, Prod.mk.injEq] at he
      obtain ⟨rfl, rfl⟩ := he
      exact .pure s (.slice none 0 0) (run_append_in hD h0 h1 ht hu hi (sCap := 0) (sLen := 0) hf1 (Nat.le_refl _) (fun a ha => by cases ha) (fun _ => rfl)) .nils
    | false =>
    cases p2 : Nat.ble (n * by') lim with
    | false => simp [p1, p2] at he
    | true =>
    cases p3 : Nat.ble n lim with
    | false => simp [p1, p2, p3] at he
    | true =>
      simp only [p1, p2, p3, cond_true, cond_false, Option.some.injEq, Prod.mk.injEq] at he
      obtain ⟨rfl, rfl⟩ := he
      have k2 := Nat.le_of_ble_eq_true p2
      have k3 := Nat.le_of_ble_eq_true p3
      have hnpos : 0 < n := by
        rcases Nat.eq_zero_or_pos n with h | h
        · subst h; simp at p1
        · exact h
      have hn : ρ h.nx = none := hf h.nx (Nat.le_refl _)
      have := grow [] [] none 0 0 h .nil (by simp) (by simp [Builtin.firstCells]) (by omega) (by simpa [lim] using k3) (by simpa [lim] using k2) hn rfl (fun _ _ h => h)
      simpa using this
  · rename_i id off len esz
    cases p0 : Nat.beq m esz with
    | false => simp [p0] at he
    | true =>
    have hme := Nat.eq_of_beq_eq_true p0
    subst hme
    cases p1 : Nat.beq n 0 with
    | true =>
      have hn0 := Nat.eq_of_beq_eq_true p1
      subst hn0
      simp only [p0, p1, cond_true, Option.some.injEq, Prod.mk.injEq] at he
      obtain ⟨rfl, rfl⟩ := he
      have hxs : xs = [] := List.eq_nil_of_length_eq_zero (by simpa using hxl)
      subst hxs
      cases hx with
      | slice _ _ cap _ hid hl hb =>
        exact .pure s _ (run_append_in hD h0 h1 ht hu hi hf1 (by simpa using hl) (fun a ha => rfl) (fun _ => rfl)) (.slice _ _ cap _ hid hl hb)
      | slice0 ad =>
        exact .pure s _ (run_append_in hD h0 h1 ht hu hi hf1 (by simp) (fun a ha => rfl) (fun _ => rfl)) (.slice0 ad)
    | false =>
    cases p2 : Nat.ble ((len + n) * by') lim with
    | false => simp [p0, p1, p2] at he
    | true =>
    cases p3 : Nat.ble (len + n) lim with
    | false => simp [p0, p1, p2, p3] at he
    | true =>
    cases p4 : Nat.ble 1 m with
    | false => simp [p0, p1, p2, p3, p4] at he
    | true =>
      simp only [p0, p1, p2, p3, p4, cond_true, cond_false] at he
      have k2 : (len + n) * by' ≤ 1099511627776 := Nat.le_of_ble_eq_true p2
      have k3 : len + n ≤ 1099511627776 := Nat.le_of_ble_eq_true p3
      have k4 := Nat.le_of_ble_eq_true p4
      have hnpos : 0 < n := by
        rcases Nat.eq_zero_or_pos n with h | h
        · subst h; simp at p1
        · exact h
      split at he
      case h_2 => simp at he
      rename_i vals hg
      split at he
      case h_2 => simp at he
      rename_i olds hs
      simp only [Option.some.injEq, Prod.mk.injEq] at he
      obtain ⟨rfl, rfl⟩ := he
      have hn : ρ h.nx = none := hf h.nx (Nat.le_refl _)
      obtain ⟨ev, hev, ho⟩ := s.obj _ _ hg
      obtain ⟨ox, o1, o2, o3⟩ := ho.seg hs
      have hsub : ∀ i o, (h.put id none).get i = some o → h.get i = some o := fun i o hi => (h.del_sub id i o hi).2
      cases hx with
      | slice0 ad =>
        have holds : olds = [] := by
          have := (seg_spec hs).1
          exact List.eq_nil_of_length_eq_zero (by simpa using this)
        subst holds
        have hox : ox = [] := List.eq_nil_of_length_eq_zero (by simpa using o1)
        subst hox
        have := grow [] [] (some ad) 0 0 (h.put id none) .nil (by simp) (by simp [Builtin.firstCells, loadCells, loadCellsFrom]) (by omega) (by omega) (by simpa using k2) hn rfl hsub
        simpa using this
      | slice _ _ cap _ hid hl hb =>
        rw [hid] at hev; cases hev
        by_cases hroom : len + n ≤ cap
        · -- in place
          obtain ⟨c, et, fr, hc, hsz, hown, hro, hcell⟩ := ho
          obtain ⟨hge, hfr⟩ := hown rfl
          subst hfr
          have hcapm : (len + n) * m ≤ cap * m := Nat.mul_le_mul_right _ hroom
          rw [Nat.add_mul] at hcapm
          have hst := run_storeCells_at P ev.blk (ev.base + off + len * m) et xs 0 c w hc (by rw [hxl]; omega) hone
          simp only [Nat.add_zero] at hst
          have hrun := run_append_in hD h0 h1 (ty := ty) ht hu hi (base := some ⟨ev.blk, ev.base + off, none⟩) hf1 hroom (w' := w.setRow ev.blk (c.toList.take (ev.base + off + len * m) ++ xs ++ c.toList.drop (ev.base + off + len * m + xs.length)).toArray) (fun a ha => by
            simp only [Option.some.injEq] at ha; subst ha
            rw [add_at]; exact hst) (fun h => by cases h)
          obtain ⟨r1, r2, r3, r4, r5⟩ := setRow_keeps w ev.blk (c.toList.take (ev.base + off + len * m) ++ xs ++ c.toList.drop (ev.base + off + len * m + xs.length)).toArray
          refine ⟨ρ.upd h.nx ⟨ev.blk, ev.base + off, ev.size⟩, _, _, hrun, ?_, ?_⟩
          · have := VR.slice (ρ := ρ.upd h.nx ⟨ev.blk, ev.base + off, ev.size⟩) (id := h.nx) (e := ⟨ev.blk, ev.base + off, ev.size⟩) 0 (len + n) cap m (Emb.upd_same _ _ _) hroom (by simpa using hb)
            simpa using this
          · have hmv := Post.move (o' := .cells (olds ++ news) true) s hg hid rfl rfl hn (e' := ⟨ev.blk, ev.base + off, ev.size⟩) rfl r1 r2 r3 r4 r5 ⟨_, et, (0, 0), setRow_heap w ev.blk c _ et _ hc, by
              simp only [List.size_toArray, List.length_append, List.length_take, List.length_drop, Array.length_toList]
              omega, fun _ => ⟨hge, rfl⟩, fun h => by simp at h, fun j v hv => by
              have hol : olds.length = len * m := (seg_spec hs).1
              simp only [List.getElem?_toArray]
              by_cases hj : j < len * m
              · rw [List.getElem?_append_left (by omega)] at hv
                rw [← (seg_spec hs).2 j hj] at hv
                obtain ⟨x', hx', hrx⟩ := hcell _ _ hv
                refine ⟨x', ?_, hrx.mono (Emb.le_upd _ hn)⟩
                rw [List.append_assoc, List.getElem?_append_left (by simp; omega), List.getElem?_take_of_lt (by omega)]
                simpa [Nat.add_assoc] using hx'
              · have hjl : j < (olds ++ news).length := (List.getElem?_eq_some_iff.1 hv).1
                rw [List.getElem?_append_right (by omega)] at hv
                obtain ⟨x', hx', hrx⟩ := hr.get _ _ hv
                refine ⟨x', ?_, hrx.mono (Emb.le_upd _ hn)⟩
                have hxlt := (List.getElem?_eq_some_iff.1 hx').1
                have hmin : min (ev.base + off + len * m) c.toList.length = ev.base + off + len * m := by simp; omega
                rw [List.append_assoc, List.getElem?_append_right (by simp; omega)]
                simp only [List.length_take, hmin]
                rw [show ev.base + off + j - (ev.base + off + len * m) = j - olds.length by omega, List.getElem?_append_left hxlt]
                exact hx'⟩
            refine hmv.weaken (fun i o hio => ?_) (Nat.le_refl _)
            have h2 := H.new_sub (h.put id none) (.cells (olds ++ news) true) i o hio
            unfold Hp.upd at h2
            have hnxe : (h.put id none).nx = h.nx := rfl
            rw [hnxe] at h2
            split at h2
            · rename_i hin; rw [if_pos hin]; exact h2
            · rename_i hin
              rw [if_neg hin]
              obtain ⟨h3, h4⟩ := h.del_sub id i o h2
              rw [if_neg h3]; exact h4
        · have hfo := run_firstCells_some (P := P) w.drew m len ⟨ev.blk, ev.base + off, none⟩ len cap ox (by omega) o3
          exact grow olds ox _ len cap (h.put id none) o2 o1 hfo (by omega) k3 k2 hn rfl hsub
  · simp at he

/-! ### 21b. clear of a slice of one-cell elements -/
def evClear (D : Tab) (ts : Array TypeId) (x : AV) (h : H) : Option H :=
  match ts[0]? with
  | some t =>
    match D.und t with
    | some (.slice e) =>
      match x with
      | .nils => some h
      | .slice id off len esz =>
        bif Nat.beq len 0 then some h
        else
          match D.info e with
          | some (_, _, z) =>
            match z.cells.toList, h.get id with
            | [v], some (.cells vals true) => bif Nat.beq esz 1 then bif Nat.ble (off + len) vals.length then bif (ofVal1 v).one then some (h.put id (some (.cells (setSeg vals off (List.replicate len (ofVal1 v))) true))) else none else none else none
            | _, _ => none
          | none => none
      | _ => none
    | _ => none
  | none => none
theorem zeroCells_one (v : Value) (z : Array Value) (n : Nat) (hz : z.toList = [v]) : (Builtin.zeroCells z n).toList = List.replicate n v := by
  have : z = #[v] := Array.ext' hz
  subst this
  have h1 : ∀ i : Nat, i % 1 = 0 := fun i => by omega
  simp [Builtin.zeroCells, h1, List.map_const']
theorem VRs.replicate {ρ : Emb} {a : AV} {v : Value} (h : VR ρ a v) : ∀ n, VRs ρ (List.replicate n a) (List.replicate n v)
  | 0 => .nil
  | n + 1 => .cons h (VRs.replicate h n)
theorem allOne_replicate {a : AV} (h : a.one = true) : ∀ n, allOne (List.replicate n a) = true
  | 0 => rfl
  | n + 1 => by rw [List.replicate_succ, allOne, h, allOne_replicate h n]; rfl
theorem evClear_ok {D : Tab} {P : Program} (hD : D.Ok P) {N0 : Nat} {ρ : Emb} {h h' : H} {w : World} {ts : Array TypeId} {ty : TypeId} {x : AV} {a : Value} (s : Sim N0 ρ h.get w) (hx : VR ρ x a) (he : evClear D ts x h = some h') :
    ∃ w', (Builtin.clear_ ts ty #[a]).run P w = .ok (.tuple #[]) w' ∧ Post N0 ρ h.get h.nx w ρ h'.get h'.nx w' := by
  unfold evClear at he
  split at he
  case h_2 => cases he
  rename_i t ht
  split at he
  case h_2 => cases he
  rename_i e hu
  split at he
  case h_3 => cases he
  · simp only [Option.some.injEq] at he; subst he
    cases hx
    exact ⟨w, by simp [Builtin.clear_, ht, run_und hD hu], .refl s⟩
  rename_i id off len esz
  cases hl : Nat.beq len 0 with
  | true =>
    have := Nat.eq_of_beq_eq_true hl
    subst this
    simp only [Nat.beq_refl, cond_true, Option.some.injEq] at he; subst he
    cases hx <;> exact ⟨w, by simp [Builtin.clear_, ht, run_und hD hu], .refl s⟩
  | false =>
    simp only [hl, cond_false] at he
    split at he
    case h_2 => cases he
    rename_i m b z hi
    split at he
    case h_2 => cases he
    rename_i v vals hz hg
    obtain ⟨q1, he⟩ : Nat.beq esz 1 = true ∧ _ := by
      cases hq : Nat.beq esz 1 with
      | true => rw [hq] at he; exact ⟨rfl, he⟩
      | false => rw [hq] at he; cases he
    obtain ⟨q2, he⟩ : Nat.ble (off + len) vals.length = true ∧ _ := by
      cases hq : Nat.ble (off + len) vals.length with
      | true => rw [hq] at he; exact ⟨rfl, he⟩
      | false => rw [hq] at he; cases he
    obtain ⟨q3, he⟩ : (ofVal1 v).one = true ∧ _ := by
      cases hq : (ofVal1 v).one with
      | true => rw [hq] at he; exact ⟨rfl, he⟩
      | false => rw [hq] at he; cases he
    simp only [cond_true, Option.some.injEq] at he
    subst he
    have hfit := Nat.le_of_ble_eq_true q2
    have hpos : 1 ≤ len := by
      cases len with
      | zero => cases hl
      | succ n => omega
    cases hx with
    | slice0 a => omega
    | slice _ _ cap _ hid hcap hb =>
      rename_i e'
      obtain ⟨e'', he', ho⟩ := s.obj id _ hg
      rw [hid] at he'; cases he'
      obtain ⟨c, et, fr, hc, hsz, hown, hro, hcell⟩ := ho
      obtain ⟨hge, hfr⟩ := hown rfl
      subst hfr
      have hrel : VRs ρ (List.replicate len (ofVal1 v)) (List.replicate len v) := VRs.replicate (ofVal1_rel ρ v) len
      have hone := hrel.oneCell (allOne_replicate q3 len)
      refine ⟨_, ?_, (Post.setSeg (nx := h.nx) s hg hid hrel (by simp; omega) (by simp; omega) hc).weaken (h.put_sub _ _) (Nat.le_refl _)⟩
      have hst := run_storeCells_at P e'.blk (e'.base + off) et (List.replicate len v) 0 c w hc (by
        obtain ⟨y, hy, _⟩ := hcell (off + len - 1) (vals[off + len - 1]'(by omega)) (List.getElem?_eq_getElem _)
        have := (Array.getElem?_eq_some_iff.1 hy).1
        simp; omega) hone
      simp only [Nat.add_zero] at hst
      cases len with
      | zero => omega
      | succ n =>
        simp only [Builtin.clear_, ht, Sem.run_bind, run_und hD hu, Result.andThen_ok, run_zero hD hi, zeroCells_one v z.cells _ hz]
        simp only [List.getElem?_toArray, List.getElem?_cons_zero, Sem.run_bind, run_und hD hu, Result.andThen_ok, run_zero hD hi, zeroCells_one v z.cells _ hz, hst]
        rfl
end Go.Rx
