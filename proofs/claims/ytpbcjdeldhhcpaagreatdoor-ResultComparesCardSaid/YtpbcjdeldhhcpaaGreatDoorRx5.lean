import Derived.Test.YtpbcjdeldhhcpaaGreatDoorRx4
import Derived.Laws.Slices
set_option linter.unusedVariables false
set_option linter.unusedSimpArgs false
set_option linter.unusedSectionVars false
noncomputable section
namespace Go.Rx
open Go

/-! ### 15. Building values -/
inductive PR (ρ : Emb) : List (Nat × AV) → List (Nat × Value) → Prop
  | nil : PR ρ [] []
  | cons {i : Nat} {a : AV} {v : Value} {as : List (Nat × AV)} {vs : List (Nat × Value)} (h : VR ρ a v) (t : PR ρ as vs) : PR ρ ((i, a) :: as) ((i, v) :: vs)

def fillA (place : Nat → Option (Nat × Nat)) (cells : List AV) : List (Nat × AV) → Option (List AV)
  | [] => some cells
  | (i, v) :: rest =>
    match place i with
    | some (off, size) => bif v.known then bif Nat.beq v.cs.length size then bif Nat.ble (off + size) cells.length then fillA place (setSeg cells off v.cs) rest else none else none else none
    | none => none

theorem fold_at (off : Nat) : ∀ (l : List Value) (k : Nat) (cs : Array Value), off + k + l.length ≤ cs.size →
    ((l.zipIdx k).foldl (fun (cs : Array Value) (x : Value × Nat) => cs.setIfInBounds (off + x.2) x.1) cs).size = cs.size ∧
    ∀ j, ((l.zipIdx k).foldl (fun (cs : Array Value) (x : Value × Nat) => cs.setIfInBounds (off + x.2) x.1) cs)[j]? = if off + k ≤ j ∧ j < off + k + l.length then l[j - (off + k)]? else cs[j]?
  | [], k, cs, _ => by
    refine ⟨by simp, fun j => ?_⟩
    simp only [List.zipIdx_nil, List.foldl_nil, List.length_nil]
    rw [if_neg (by omega)]
  | v :: l, k, cs, h => by
    simp only [List.length_cons] at h
    obtain ⟨h1, h2⟩ := fold_at off l (k + 1) (cs.setIfInBounds (off + k) v) (by simp; omega)
    simp only [List.zipIdx_cons, List.foldl_cons]
    refine ⟨by rw [h1]; simp, fun j => ?_⟩
    rw [h2 j]
    simp only [List.length_cons]
    by_cases hj : j = off + k
    · subst hj
      rw [if_neg (by omega), if_pos (by omega), Nat.sub_self, Array.getElem?_setIfInBounds_self_of_lt (by omega)]
      rfl
    · by_cases hr : off + (k + 1) ≤ j ∧ j < off + (k + 1) + l.length
      · rw [if_pos hr, if_pos (by omega), show j - (off + k) = (j - (off + (k + 1))) + 1 by omega, List.getElem?_cons_succ]
      · rw [if_neg hr, if_neg (by omega), Array.getElem?_setIfInBounds_ne (by omega)]

theorem setSeg_get (vals : List AV) (off : Nat) (l : List AV) (h : off + l.length ≤ vals.length) (j : Nat) : (setSeg vals off l)[j]? = if off ≤ j ∧ j < off + l.length then l[j - off]? else vals[j]? := by
  unfold setSeg
  by_cases h1 : j < off
  · rw [if_neg (by omega), List.append_assoc, List.getElem?_append_left (by simp; omega), List.getElem?_take_of_lt h1]
  · by_cases h2 : j < off + l.length
    · rw [if_pos (by omega), List.append_assoc, List.getElem?_append_right (by simp; omega), List.getElem?_append_left (by simp; omega)]
      congr 1
      simp; omega
    · rw [if_neg (by omega), List.getElem?_append_right (by simp; omega), List.getElem?_drop]
      congr 1
      simp; omega
theorem setSeg_length (vals : List AV) (off : Nat) (l : List AV) (h : off + l.length ≤ vals.length) : (setSeg vals off l).length = vals.length := by
  unfold setSeg; simp; omega

theorem fill_ok {ρ : Emb} (pl : Nat → Option (Nat × Nat)) : ∀ {ps : List (Nat × AV)} {qs : List (Nat × Value)}, PR ρ ps qs → ∀ (cells : List AV) (xs : Array Value) {r : List AV}, VRs ρ cells xs.toList → fillA pl cells ps = some r →
    ∃ ys : Array Value, Instr.fill pl xs qs = some ys ∧ VRs ρ r ys.toList
  | _, _, .nil, cells, xs, r, hr, he => by
    simp only [fillA, Option.some.injEq] at he
    subst he
    exact ⟨xs, rfl, hr⟩
  | _, _, .cons (i := i) (a := a) (v := v) (as := as) (vs := vs) h t, cells, xs, r, hr, he => by
    rw [fillA] at he
    split at he
    case h_2 => simp at he
    rename_i off size hp
    cases h1 : a.known with
    | false => simp [h1] at he
    | true =>
    cases h2 : Nat.beq a.cs.length size with
    | false => simp [h1, h2] at he
    | true =>
    cases h3 : Nat.ble (off + size) cells.length with
    | false => simp [h1, h2, h3] at he
    | true =>
      simp only [h1, h2, h3, cond_true] at he
      have hs := Nat.eq_of_beq_eq_true h2
      have hf := Nat.le_of_ble_eq_true h3
      have hc := h.cells h1
      have hl := hc.length
      have hl' := hr.length
      simp at hl hl'
      obtain ⟨k1, k2⟩ := fold_at off v.cells.toList 0 xs (by simp; omega)
      have hfold : v.cells.zipIdx.foldl (fun (cs : Array Value) (x : Value × Nat) => cs.setIfInBounds (off + x.2) x.1) xs = (v.cells.toList.zipIdx 0).foldl (fun (cs : Array Value) (x : Value × Nat) => cs.setIfInBounds (off + x.2) x.1) xs := by
        rw [← Array.foldl_toList, Array.toList_zipIdx]
      have hnew : VRs ρ (setSeg cells off a.cs) (v.cells.zipIdx.foldl (fun (cs : Array Value) (x : Value × Nat) => cs.setIfInBounds (off + x.2) x.1) xs).toList := by
        rw [hfold]
        refine VRs.of_get _ _ ?_ fun j u hu => ?_
        · rw [setSeg_length _ _ _ (by omega)]
          simp only [Array.length_toList]
          rw [k1, hl']
        · rw [setSeg_get _ _ _ (by omega)] at hu
          simp only [Array.getElem?_toList]
          rw [k2 j]
          split at hu
          · rename_i hj
            rw [if_pos (by simp; omega)]
            obtain ⟨y, hy, hry⟩ := hc.get _ _ hu
            exact ⟨y, by simpa using hy, hry⟩
          · rename_i hj
            rw [if_neg (by simp; omega)]
            obtain ⟨y, hy, hry⟩ := hr.get _ _ hu
            exact ⟨y, by simpa using hy, hry⟩
      obtain ⟨ys, hy1, hy2⟩ := fill_ok pl t _ _ hnew he
      refine ⟨ys, ?_, hy2⟩
      rw [Instr.fill]
      simp only [hp]
      rw [if_neg (by simp; omega)]
      exact hy1

def mapSome {α β : Type} (f : α → Option β) : List α → Option (List β)
  | [] => some []
  | a :: as => match f a, mapSome f as with
    | some b, some bs => some (b :: bs)
    | _, _ => none

/-- Where the fields of a struct lie. -/
def placesOf (D : Tab) : List Field → Option (List (Nat × Nat))
  | [] => some []
  | f :: fs => match D.info f.type, placesOf D fs with
    | some (n, _, _), some r => some ((f.offset, n) :: r)
    | _, _ => none
theorem placesOf_run {D : Tab} {P : Program} (hD : D.Ok P) {w : World} : ∀ {fs : List Field} {r : List (Nat × Nat)}, placesOf D fs = some r →
    (List.mapM (m := Sem) (fun f : Field => Prod.mk f.offset <$> sizeOf f.type) fs).run P w = .ok r w
  | [], r, h => by simp only [placesOf, Option.some.injEq] at h; subst h; rfl
  | f :: fs, r, h => by
    rw [placesOf] at h
    split at h
    · rename_i n b z r' hi hr
      simp only [Option.some.injEq] at h; subst h
      have ih := placesOf_run hD (w := w) hr
      simp [List.mapM_cons, run_size hD hi, ih]
    · simp at h

def evBuild (D : Tab) (t : TypeId) (ps : List (Nat × AV)) : Option AV :=
  match D.info t, D.und t with
  | some (_, _, z), some (.struct fs) =>
    match placesOf D fs.toList with
    | some pl => match fillA (pl[·]?) (zc z) ps with
      | some r => some (.agg r)
      | none => none
    | none => none
  | some (_, _, z), some (.array _ e) =>
    match D.info e with
    | some (n, _, _) => match fillA (fun i => some (i * n, n)) (zc z) ps with
      | some r => some (.agg r)
      | none => none
    | none => none
  | _, _ => none
theorem evBuild_ok {D : Tab} {P : Program} (hD : D.Ok P) {N0 : Nat} {ρ : Emb} {h : Hp} {nx : Nat} {w : World} {t : TypeId} {ps : List (Nat × AV)} {qs : Array (Nat × Value)} {r : AV} (s : Sim N0 ρ h w) (hp : PR ρ ps qs.toList) (he : evBuild D t ps = some r) :
    ROk P N0 ρ h nx w (Instr.build t qs) r h nx := by
  unfold evBuild at he
  split at he
  · rename_i n b z fs hi hu
    split at he
    case h_2 => simp at he
    rename_i pl hpl
    split at he
    case h_2 => simp at he
    rename_i r' hf
    simp only [Option.some.injEq] at he; subst he
    obtain ⟨ys, h1, h2⟩ := fill_ok (pl[·]?) hp (zc z) z.cells (ofVals_rel ρ _) hf
    refine .pure s (.agg ys) ?_ (.agg (vs := ys.toList) h2)
    have hm : (Array.mapM (m := Sem) (fun f : Field => Prod.mk f.offset <$> sizeOf f.type) fs).run P w = .ok pl.toArray w := by
      rw [Array.mapM_eq_mapM_toList, Sem.run_map, placesOf_run hD hpl]
      rfl
    simp [Instr.build, run_zero hD hi, run_und hD hu, hm, h1]
  · rename_i n b z len e hi hu
    split at he
    case h_2 => simp at he
    rename_i m b' z' hm
    split at he
    case h_2 => simp at he
    rename_i r' hf
    simp only [Option.some.injEq] at he; subst he
    obtain ⟨ys, h1, h2⟩ := fill_ok (fun i => some (i * m, m)) hp (zc z) z.cells (ofVals_rel ρ _) hf
    refine .pure s (.agg ys) ?_ (.agg (vs := ys.toList) h2)
    simp [Instr.build, run_zero hD hi, run_und hD hu, run_size hD hm, h1]
  · simp at he

/-- n cells of zero values. -/
def madeA (z : List AV) (n : Nat) : List AV := (List.range n).map fun i => (z[i % z.length]?).getD .any
theorem madeA_rel {ρ : Emb} (z : Value) (n : Nat) : VRs ρ (madeA (zc z) n) ((Array.range n).map (z.cells[· % z.cells.size]!)).toList := by
  refine VRs.of_get _ _ (by simp [madeA]) fun i u hu => ?_
  simp only [madeA, List.getElem?_map] at hu
  by_cases hi : i < n
  · rw [List.getElem?_range hi] at hu
    simp only [Option.map_some, Option.some.injEq] at hu
    refine ⟨z.cells[i % z.cells.size]!, by simp [hi], ?_⟩
    have hl : (zc z).length = z.cells.size := by simp [zc]
    rw [hl] at hu
    cases hg : z.cells.toList[i % z.cells.size]? with
    | none =>
      have : (zc z)[i % z.cells.size]? = none := by rw [zc, List.getElem?_map, hg]; rfl
      rw [this] at hu; subst hu; exact .any _
    | some v =>
      have : (zc z)[i % z.cells.size]? = some (ofVal1 v) := by rw [zc, List.getElem?_map, hg]; rfl
      rw [this] at hu; subst hu
      have hv : z.cells[i % z.cells.size]? = some v := by simpa using hg
      have : z.cells[i % z.cells.size]! = v := by rw [getElem!_def, hv]
      rw [this]
      exact ofVal1_rel ρ v
  · rw [List.getElem?_eq_none (by simp; omega)] at hu; cases hu

def evBuildSlice (D : Tab) (t : TypeId) (len : Nat) (ps : List (Nat × AV)) (h : H) : Option (AV × H) :=
  match D.und t with
  | some (.slice e) =>
    match D.info e with
    | some (n, _, z) =>
      bif Nat.ble (len * n) 16777216 then
        match fillA (fun i => some (i * n, n)) (madeA (zc z) (len * n)) ps with
        | some r => some (.slice h.nx 0 len n, h.new (.cells r true))
        | none => none
      else none
    | none => none
  | _ => none
theorem evBuildSlice_ok {D : Tab} {P : Program} (hD : D.Ok P) {N0 : Nat} {ρ : Emb} {h h' : H} {w : World} {t : TypeId} {len : Nat} {ps : List (Nat × AV)} {qs : Array (Nat × Value)} {r : AV} (s : Sim N0 ρ h.get w) (hp : PR ρ ps qs.toList) (he : evBuildSlice D t len ps h = some (r, h')) (hf : Fresh ρ h.nx h'.nx) :
    ROk P N0 ρ h.get h.nx w (Instr.buildSlice t len qs) r h'.get h'.nx := by
  unfold evBuildSlice at he
  split at he
  case h_2 => simp at he
  rename_i e hu
  split at he
  case h_2 => simp at he
  rename_i n b z hi
  cases h1 : Nat.ble (len * n) 16777216 with
  | false => simp [h1] at he
  | true =>
  simp only [h1, cond_true] at he
  have hle := Nat.le_of_ble_eq_true h1
  split at he
  case h_2 => simp at he
  rename_i r' hfl
  simp only [Option.some.injEq, Prod.mk.injEq] at he
  obtain ⟨rfl, rfl⟩ := he
  have hn : ρ h.nx = none := hf h.nx (Nat.le_refl _)
  obtain ⟨ys, k1, k2⟩ := fill_ok (fun i => some (i * n, n)) hp _ _ (madeA_rel (ρ := ρ) z (len * n)) hfl
  have hsz : ys.size = len * n := by
    have a1 := k2.length
    have a2 : ∀ {ps : List (Nat × AV)} {c r : List AV}, fillA (fun i => some (i * n, n)) c ps = some r → r.length = c.length := by
      intro ps
      induction ps with
      | nil => intro c r h; simp only [fillA, Option.some.injEq] at h; rw [h]
      | cons p ps ih =>
        intro c r h
        obtain ⟨i, v⟩ := p
        rw [fillA] at h
        simp only at h
        cases q1 : v.known with
        | false => simp [q1] at h
        | true =>
        cases q2 : Nat.beq v.cs.length n with
        | false => simp [q1, q2] at h
        | true =>
        cases q3 : Nat.ble (i * n + n) c.length with
        | false => simp [q1, q2, q3] at h
        | true =>
          simp only [q1, q2, q3, cond_true] at h
          rw [ih h, setSeg_length]
          have := Nat.eq_of_beq_eq_true q2
          have := Nat.le_of_ble_eq_true q3
          omega
    have a3 := a2 hfl
    simp [madeA] at a3
    simp at a1
    omega
  refine ⟨ρ.upd h.nx ⟨w.heap.size, 0, ys.size⟩, .slice (some ⟨w.heap.size, 0, none⟩) len len, w.alloc (.cells ys e), ?_, ?_, (Post.cells s hn ys k2 e).weaken (h.new_sub _) (Nat.le_refl _)⟩
  · have hno : ¬ (16777216 < len * n) := by omega
    by_cases h0 : len * n = 0
    · rw [h0] at k1
      have k1' : Instr.fill (fun i => some (i * n, n)) #[] qs.toList = some ys := by simpa [Array.range_zero'] using k1
      simp [Instr.buildSlice, run_und hD hu, run_size hD hi, h0, k1', newRow, newObj, Sem.run, Array.range_zero']
    · simp [Instr.buildSlice, run_und hD hu, run_size hD hi, h0, hno, run_zero hD hi, k1, newRow, newObj, Sem.run]
  · have := VR.slice (ρ := ρ.upd h.nx ⟨w.heap.size, 0, ys.size⟩) (id := h.nx) (e := ⟨w.heap.size, 0, ys.size⟩) 0 len len n (Emb.upd_same _ _ _) (Nat.le_refl _) (by simp; omega)
    simpa using this
end Go.Rx
