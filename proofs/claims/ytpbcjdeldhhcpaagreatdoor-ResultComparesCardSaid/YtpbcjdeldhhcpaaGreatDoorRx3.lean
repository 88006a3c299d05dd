import Derived.Test.YtpbcjdeldhhcpaaGreatDoorRx2
import Derived.Laws.CopyRow
import Derived.Laws.AppendOwn
import Derived.Laws.MakeOwn
import Derived.Laws.Append
import Derived.Laws.Entries
set_option linter.unusedVariables false
set_option linter.unusedSimpArgs false
set_option linter.unusedSectionVars false
noncomputable section
namespace Go.Rx
open Go

/-! ### 8. What is told of the program -/
structure Tab where
  und : TypeId → Option TypeDesc
  info : TypeId → Option (Nat × Nat × Value)
  fn : FuncId → Option Func
structure Tab.Ok (D : Tab) (P : Program) : Prop where
  und : ∀ t d, D.und t = some d → P.underlying t = some d
  info : ∀ t n b z, D.info t = some (n, b, z) → ∃ i, P.info? t = some i ∧ i.size = n ∧ i.bytes = b ∧ i.zero = some z
  fn : ∀ f x, D.fn f = some x → P.funcs[f]? = some x

def Tab.isAgg (D : Tab) (t : TypeId) : Option Bool :=
  match D.und t with
  | some (.struct _) => some true
  | some (.array _ _) => some true
  | some _ => some false
  | none => none

section
variable {D : Tab} {P : Program} (hD : D.Ok P) {w : World}
include hD
theorem run_und {t : TypeId} {d : TypeDesc} (h : D.und t = some d) : (underlying t).run P w = .ok d w := run_underlying (hD.und t d h) w
theorem run_size {t : TypeId} {n b : Nat} {z : Value} (h : D.info t = some (n, b, z)) : (sizeOf t).run P w = .ok n w := by
  obtain ⟨i, hi, h1, h2, h3⟩ := hD.info t n b z h
  simp [sizeOf, typeInfo, hi, h1]
theorem run_zero {t : TypeId} {n b : Nat} {z : Value} (h : D.info t = some (n, b, z)) : (zeroValue t).run P w = .ok z w := by
  obtain ⟨i, hi, h1, h2, h3⟩ := hD.info t n b z h
  simp [zeroValue, typeInfo, hi, h3]
theorem run_isAgg {t : TypeId} {b : Bool} (h : D.isAgg t = some b) : (isAgg t).run P w = .ok b w := by
  unfold Tab.isAgg at h
  cases hd : D.und t with
  | none => simp [hd] at h
  | some d =>
    have hu := run_und hD (w := w) hd
    unfold isAgg
    rw [Sem.run_bind, hu, Result.andThen_ok]
    rw [hd] at h
    cases d <;> simp_all <;> subst h <;> rfl
end

/-! ### 9. The abstract heap of the evaluator -/
structure H where
  hp : T AO
  nx : Nat
  hide : List (Nat × Nat)
  lo : Nat
  log : List Nat

def hid : List (Nat × Nat) → Nat → Bool
  | [], _ => false
  | (a, b) :: t, i => bif Nat.ble a i then (bif Nat.ble b i then hid t i else true) else hid t i
def H.get (h : H) (i : Nat) : Option AO := bif hid h.hide i then none else h.hp.get i
def H.new (h : H) (o : AO) : H := { h with hp := h.hp.set h.nx (some o), nx := h.nx + 1 }
def H.put (h : H) (i : Nat) (o : Option AO) : H := { h with hp := h.hp.set i o, log := bif Nat.ble h.lo i then h.log else i :: h.log }

theorem H.new_sub (h : H) (o : AO) : ∀ i o', (h.new o).get i = some o' → Hp.upd h.get h.nx o i = some o' := by
  intro i o' hi
  unfold H.get H.new at hi
  simp only [T.get_set] at hi
  unfold Hp.upd H.get
  cases hh : hid h.hide i <;> simp [hh] at hi ⊢
  exact hi
theorem H.put_sub (h : H) (j : Nat) (o : AO) : ∀ i o', (h.put j (some o)).get i = some o' → Hp.upd h.get j o i = some o' := by
  intro i o' hi
  unfold H.get H.put at hi
  simp only [T.get_set] at hi
  unfold Hp.upd H.get
  cases hh : hid h.hide i <;> simp [hh] at hi ⊢
  exact hi
theorem H.del_sub (h : H) (j : Nat) : ∀ i o', (h.put j none).get i = some o' → i ≠ j ∧ h.get i = some o' := by
  intro i o' hi
  unfold H.get H.put at hi
  simp only [T.get_set] at hi
  unfold H.get
  cases hh : hid h.hide i <;> simp [hh] at hi ⊢
  exact hi

/-- What an operation comes to that hands back a value. -/
def ROk (P : Program) (N0 : Nat) (ρ : Emb) (h : Hp) (nx : Nat) (w : World) (s : Sem Value) (v : AV) (h' : Hp) (nx' : Nat) : Prop :=
  ∃ ρ' x w', s.run P w = .ok x w' ∧ VR ρ' v x ∧ Post N0 ρ h nx w ρ' h' nx' w'
theorem ROk.pure {P : Program} {N0 : Nat} {ρ : Emb} {h : Hp} {nx : Nat} {w : World} {s : Sem Value} {v : AV} (sim : Sim N0 ρ h w) (x : Value) (hx : s.run P w = .ok x w) (hv : VR ρ v x) : ROk P N0 ρ h nx w s v h nx :=
  ⟨ρ, x, w, hx, hv, .refl sim⟩

/-! ### 10. New rows -/
theorem Post.cells {N0 : Nat} {ρ : Emb} {h : Hp} {w : World} (s : Sim N0 ρ h w) {id : Nat} (hf : ρ id = none) {vs : List AV} (xs : Array Value) (hr : VRs ρ vs xs.toList) (et : TypeId) :
    Post N0 ρ h id w (ρ.upd id ⟨w.heap.size, 0, xs.size⟩) (h.upd id (.cells vs true)) (id + 1) (w.alloc (.cells xs et)) := by
  refine Post.new s hf ⟨w.heap.size, 0, xs.size⟩ _ _ rfl rfl ⟨xs, et, (0, 0), ?_, rfl, fun _ => ⟨s.base, rfl⟩, fun h => by simp at h, fun j v hv => ?_⟩
  · exact heap_alloc_new w _
  · obtain ⟨x, hx, hr'⟩ := hr.get j v hv
    exact ⟨x, by simpa using hx, hr'.mono (Emb.le_upd _ hf)⟩

def zc (z : Value) : List AV := z.cells.toList.map ofVal1
def AV.cs : AV → List AV
  | .agg cs => cs
  | v => [v]
/-- Not several cells, and known. -/
def AV.one : AV → Bool
  | .any => false
  | .agg _ => false
  | .tuple _ => false
  | _ => true
def AV.known : AV → Bool
  | .any => false
  | _ => true

theorem VR.cells {ρ : Emb} {a : AV} {v : Value} (h : VR ρ a v) (hk : a.known = true) : VRs ρ a.cs v.cells.toList := by
  cases h <;> first | (simp [AV.known] at hk; done) | skip
  case agg cs vs hh => simpa [AV.cs, Value.cells] using hh
  all_goals (simp only [AV.cs, Value.cells]; refine .cons ?_ .nil; constructor <;> assumption)

def evAlloc (D : Tab) (t : TypeId) (h : H) : Option (AV × H) :=
  match D.info t with
  | some (_, _, z) => some (.ptr h.nx 0, h.new (.cells (zc z) true))
  | none => none
theorem evAlloc_ok {D : Tab} {P : Program} (hD : D.Ok P) {N0 : Nat} {ρ : Emb} {h h' : H} {w : World} {t : TypeId} {v : AV} (s : Sim N0 ρ h.get w) (he : evAlloc D t h = some (v, h')) (hf : Fresh ρ h.nx h'.nx) :
    ROk P N0 ρ h.get h.nx w (Instr.alloc t true (.tuple #[])) v h'.get h'.nx := by
  unfold evAlloc at he
  split at he
  · rename_i n b z hi
    simp only [Option.some.injEq, Prod.mk.injEq] at he
    obtain ⟨rfl, rfl⟩ := he
    have hn : ρ h.nx = none := hf h.nx (Nat.le_refl _)
    refine ⟨ρ.upd h.nx ⟨w.heap.size, 0, z.cells.size⟩, _, _, ?_, .ptr 0 (Emb.upd_same _ _ _), (Post.cells s hn z.cells (ofVals_rel ρ _) t).weaken (h.new_sub _) (Nat.le_refl _)⟩
    simp [Instr.alloc, run_zero hD hi, newVar, newRow, newObj, Sem.run]
  · simp at he

def evBox (v : AV) (h : H) : Option (AV × H) :=
  bif v.known then some (.ptr h.nx 0, h.new (.cells v.cs true)) else none
theorem evBox_ok {P : Program} {N0 : Nat} {ρ : Emb} {h h' : H} {w : World} {t : TypeId} {v r : AV} {x : Value} (s : Sim N0 ρ h.get w) (hx : VR ρ v x) (he : evBox v h = some (r, h')) (hf : Fresh ρ h.nx h'.nx) :
    ROk P N0 ρ h.get h.nx w (Instr.box t x) r h'.get h'.nx := by
  unfold evBox at he
  cases hk : v.known <;> simp [hk] at he
  obtain ⟨rfl, rfl⟩ := he
  have hn : ρ h.nx = none := hf h.nx (Nat.le_refl _)
  refine ⟨ρ.upd h.nx ⟨w.heap.size, 0, x.cells.size⟩, _, _, ?_, .ptr 0 (Emb.upd_same _ _ _), (Post.cells s hn x.cells (hx.cells hk) t).weaken (h.new_sub _) (Nat.le_refl _)⟩
  simp [Instr.box, newVar, newRow, newObj, Sem.run]

/-! ### 11. Reading and writing cells -/
theorem add_at (b o n : Nat) : Addr.add ⟨b, o, none⟩ n = ⟨b, o + n, none⟩ := Addr.add_lit b o n
/-- Cells that stand in the world. -/
def CR (ρ : Emb) (w : World) (blk base : Nat) (vals : List AV) : Prop := ∃ c et fr, w.heap[blk]? = some (.cells c et fr) ∧ ∀ (j : Nat) (v : AV), vals[j]? = some v → ∃ x, c[base + j]? = some x ∧ VR ρ v x
theorem OR.cr {N0 : Nat} {ρ : Emb} {w : World} {e : E} {vals : List AV} {own : Bool} (h : OR N0 ρ w e (.cells vals own)) : CR ρ w e.blk e.base vals := by
  obtain ⟨c, et, fr, hc, _, _, _, h4⟩ := h
  exact ⟨c, et, fr, hc, h4⟩
theorem Sim.cr {N0 : Nat} {ρ : Emb} {h : Hp} {w : World} (s : Sim N0 ρ h w) {vals : List AV} {xs : List Value} {b base : Nat} {c : Array Value} {et : TypeId} {fr : Nat × Nat} (hf : ρ.fz b = some (.cells c et fr))
    (hx : ∀ (j : Nat) (x : Value), xs[j]? = some x → c[base + j]? = some x) (hv : VRs ρ vals xs) : CR ρ w b base vals :=
  ⟨c, et, fr, (s.fz _ _ hf).1, fun j v hj => by
    obtain ⟨y, hy, hr⟩ := hv.get j v hj
    exact ⟨y, hx j y hy, hr⟩⟩
theorem CR.cell {ρ : Emb} {w : World} {blk base : Nat} {vals : List AV} (h : CR ρ w blk base vals) {j : Nat} {v : AV} (hv : vals[j]? = some v) : ∃ x, w.cell? ⟨blk, base + j, none⟩ = some x ∧ VR ρ v x := by
  obtain ⟨c, et, fr, hc, h4⟩ := h
  obtain ⟨x, hx, hr⟩ := h4 j v hv
  exact ⟨x, by simp [World.cell?, hc, hx], hr⟩
theorem OR.cell {N0 : Nat} {ρ : Emb} {w : World} {e : E} {vals : List AV} {own : Bool} (h : OR N0 ρ w e (.cells vals own)) {j : Nat} {v : AV} (hv : vals[j]? = some v) : ∃ x, w.cell? ⟨e.blk, e.base + j, none⟩ = some x ∧ VR ρ v x := h.cr.cell hv
/-- n cells from off on, all of them told. -/
def seg (vals : List AV) (off n : Nat) : Option (List AV) :=
  let l := (vals.drop off).take n
  bif Nat.beq l.length n then some l else none
theorem seg_spec {vals : List AV} {off n : Nat} {l : List AV} (h : seg vals off n = some l) : l.length = n ∧ ∀ j, j < n → vals[off + j]? = l[j]? := by
  unfold seg at h
  cases hb : Nat.beq ((vals.drop off).take n).length n with
  | false => simp only [hb, cond_false] at h; cases h
  | true =>
    simp only [hb, cond_true, Option.some.injEq] at h
    subst h
    have hl := Nat.eq_of_beq_eq_true hb
    refine ⟨hl, fun j hj => ?_⟩
    rw [List.getElem?_take_of_lt hj, List.getElem?_drop]
/-- The cells of the world behind a part of a row. -/
theorem CR.seg {ρ : Emb} {w : World} {blk base : Nat} {vals : List AV} (h : CR ρ w blk base vals) {off n : Nat} {l : List AV} (hs : seg vals off n = some l) :
    ∃ xs : List Value, xs.length = n ∧ VRs ρ l xs ∧ ∀ j v, xs[j]? = some v → w.cell? (Addr.add ⟨blk, base + off, none⟩ j) = some v := by
  obtain ⟨hl, hj⟩ := seg_spec hs
  have key : ∀ (m : Nat), m ≤ n → ∃ xs : List Value, xs.length = m ∧ VRs ρ (l.take m) xs ∧ ∀ j v, xs[j]? = some v → w.cell? (Addr.add ⟨blk, base + off, none⟩ j) = some v := by
    intro m
    induction m with
    | zero => intro _; exact ⟨[], rfl, by simp; exact .nil, fun j v hv => by simp at hv⟩
    | succ m ih =>
      intro hm
      obtain ⟨xs, h1, h2, h3⟩ := ih (by omega)
      have hlm : m < l.length := by omega
      have hv : vals[off + m]? = some l[m] := by rw [hj m (by omega), List.getElem?_eq_getElem hlm]
      obtain ⟨x, hx, hr⟩ := h.cell hv
      refine ⟨xs ++ [x], by simp [h1], ?_, fun j v hjv => ?_⟩
      · rw [List.take_succ_eq_append_getElem hlm]
        exact h2.append (.cons hr .nil)
      · by_cases hjm : j < m
        · rw [List.getElem?_append_left (by omega)] at hjv; exact h3 j v hjv
        · by_cases hje : j = m
          · subst hje
            rw [List.getElem?_append_right (by omega), h1, Nat.sub_self] at hjv
            simp at hjv; subst hjv
            rw [add_at, Nat.add_assoc]; exact hx
          · rw [List.getElem?_eq_none (by simp; omega)] at hjv; cases hjv
  obtain ⟨xs, h1, h2, h3⟩ := key n (Nat.le_refl _)
  exact ⟨xs, h1, by rwa [List.take_of_length_le (by omega)] at h2, h3⟩
theorem OR.seg {N0 : Nat} {ρ : Emb} {w : World} {e : E} {vals : List AV} {own : Bool} (h : OR N0 ρ w e (.cells vals own)) {off n : Nat} {l : List AV} (hs : seg vals off n = some l) :
    ∃ xs : List Value, xs.length = n ∧ VRs ρ l xs ∧ ∀ j v, xs[j]? = some v → w.cell? (Addr.add ⟨e.blk, e.base + off, none⟩ j) = some v := h.cr.seg hs

def evLoadC (D : Tab) (t : TypeId) (vals : List AV) (off : Nat) : Option AV :=
  match D.isAgg t with
  | some true =>
    match D.info t with
    | some (n, _, _) => match seg vals off n with
      | some l => some (.agg l)
      | none => none
    | none => none
  | some false => vals[off]?
  | none => none
def evLoad (D : Tab) (t : TypeId) (v : AV) (h : H) : Option AV :=
  match v with
  | .ptr id off =>
    match h.get id with
    | some (.cells vals _) => evLoadC D t vals off
    | _ => none
  | .vptr vals off => evLoadC D t vals off
  | _ => none

theorem run_load_cell {P : Program} {w : World} {a : Addr} {x : Value} (h : w.cell? a = some x) : (load a).run P w = .ok x w := by
  simp [load, Sem.run, h]
theorem evLoadC_at {D : Tab} {P : Program} (hD : D.Ok P) {ρ : Emb} {w : World} {t : TypeId} {vals : List AV} {blk base off : Nat} {r : AV} (ho : CR ρ w blk base vals) (he : evLoadC D t vals off = some r) :
    ∃ y, (Instr.loadAt t (.pointer (some ⟨blk, base + off, none⟩))).run P w = .ok y w ∧ VR ρ r y := by
  unfold evLoadC at he
  split at he
  · rename_i ha
    split at he
    · rename_i n b z hi
      split at he
      · rename_i l hs
        simp only [Option.some.injEq] at he
        subst he
        obtain ⟨xs, h1, h2, h3⟩ := ho.seg hs
        refine ⟨.agg xs.toArray, ?_, .agg h2⟩
        have hl := run_loadCells_list (P := P) w _ xs h3
        rw [h1] at hl
        simp [Instr.loadAt, Instr.sureAddr, loadVar, run_isAgg hD ha, run_size hD hi, hl]
      · simp at he
    · simp at he
  · rename_i ha
    obtain ⟨y, hy, hr⟩ := ho.cell he
    refine ⟨y, ?_, hr⟩
    have hb : (loadVar t ⟨blk, base + off, none⟩).run P w = .ok y w := by
      unfold loadVar
      rw [Sem.run_bind, run_isAgg hD ha, Result.andThen_ok]
      exact run_load_cell hy
    simpa [Instr.loadAt, Instr.sureAddr] using hb
  · simp at he
theorem evLoadC_ok {D : Tab} {P : Program} (hD : D.Ok P) {N0 : Nat} {ρ : Emb} {h : H} {w : World} {t : TypeId} {vals : List AV} {blk base off : Nat} {r : AV} (s : Sim N0 ρ h.get w) (ho : CR ρ w blk base vals) (he : evLoadC D t vals off = some r) :
    ROk P N0 ρ h.get h.nx w (Instr.loadAt t (.pointer (some ⟨blk, base + off, none⟩))) r h.get h.nx := by
  obtain ⟨y, h1, h2⟩ := evLoadC_at hD ho he
  exact .pure s y h1 h2
theorem evLoad_ok {D : Tab} {P : Program} (hD : D.Ok P) {N0 : Nat} {ρ : Emb} {h : H} {w : World} {t : TypeId} {v r : AV} {x : Value} (s : Sim N0 ρ h.get w) (hx : VR ρ v x) (he : evLoad D t v h = some r) :
    ROk P N0 ρ h.get h.nx w (Instr.loadAt t x) r h.get h.nx := by
  unfold evLoad at he
  split at he
  · rename_i id off
    cases hx with
    | ptr _ hid =>
      rename_i e
      split at he
      case h_2 => simp at he
      rename_i vals own hg
      obtain ⟨e', he', ho⟩ := s.obj id _ hg
      rw [hid] at he'; cases he'
      exact evLoadC_ok hD s ho.cr he
  · rename_i vals off
    cases hx with
    | vptr _ hf hx hv => exact evLoadC_ok hD s (s.cr hf hx hv) he
  · simp at he

def allOne : List AV → Bool
  | [] => true
  | a :: as => bif a.one then allOne as else false
theorem VRs.oneCell {ρ : Emb} : ∀ {l : List AV} {xs : List Value}, VRs ρ l xs → allOne l = true → ∀ v ∈ xs, v.oneCell' = true
  | _, _, .nil, _, v, hv => by simp at hv
  | _, _, .cons (a := a) hr ht, ha, v, hv => by
    simp only [allOne] at ha
    cases h1 : a.one with
    | false => simp [h1] at ha
    | true =>
      simp [h1] at ha
      rcases List.mem_cons.1 hv with rfl | hv
      · cases hr <;> first | (simp [AV.one] at h1; done) | rfl
      · exact VRs.oneCell ht ha v hv
def setSeg (vals : List AV) (off : Nat) (l : List AV) : List AV := vals.take off ++ l ++ vals.drop (off + l.length)

def evStore (D : Tab) (t : TypeId) (p v : AV) (h : H) : Option H :=
  match p with
  | .ptr id off =>
    match h.get id, D.info t with
    | some (.cells vals true), some (n, _, _) =>
      bif v.known then bif allOne v.cs then bif Nat.beq v.cs.length n then bif Nat.ble (off + n) vals.length then bif Nat.ble 1 n then some (h.put id (some (.cells (setSeg vals off v.cs) true)))
        else none else none else none else none else none
    | _, _ => none
  | _ => none

theorem setRow_keeps (w : World) (g : Nat) (cs : Array Value) : (w.setRow g cs).os = w.os ∧ (w.setRow g cs).tape = w.tape ∧ (w.setRow g cs).output = w.output ∧ (w.setRow g cs).heap.size = w.heap.size ∧ ∀ b, b ≠ g → (w.setRow g cs).heap[b]? = w.heap[b]? := by
  refine ⟨rfl, rfl, rfl, by simp [World.setRow], fun b hb => ?_⟩
  simp only [World.setRow, Array.getElem?_modify]
  rw [if_neg (by omega)]

/-- A part of an own row is overwritten. -/
theorem Post.setSeg {N0 : Nat} {ρ : Emb} {h : Hp} {nx : Nat} {w : World} (s : Sim N0 ρ h w) {id : Nat} {e : E} {vals : List AV} (hid : h id = some (.cells vals true)) (he : ρ id = some e) {off : Nat} {l : List AV} {xs : List Value} (hr : VRs ρ l xs)
    (hfit : off + l.length ≤ vals.length) (hpos : 1 ≤ l.length) {c : Array Value} {et : TypeId} {fr : Nat × Nat} (hc : w.heap[e.blk]? = some (.cells c et fr)) :
    Post N0 ρ h nx w ρ (h.upd id (.cells (setSeg vals off l) true)) nx (w.setRow e.blk (c.toList.take (e.base + off) ++ xs ++ c.toList.drop (e.base + off + xs.length)).toArray) := by
  obtain ⟨e', he', ho⟩ := s.obj id _ hid
  rw [he] at he'; cases he'
  obtain ⟨c', et', fr', hc', hsz, hown, hro, hcell⟩ := ho
  rw [hc] at hc'; cases hc'
  obtain ⟨k1, k2, k3, k4, k5⟩ := setRow_keeps w e.blk (c.toList.take (e.base + off) ++ xs ++ c.toList.drop (e.base + off + xs.length)).toArray
  have hl := hr.length
  have hcs : e.base + vals.length ≤ c.size := by
    obtain ⟨x, hx, _⟩ := hcell (vals.length - 1) (vals[vals.length - 1]'(by omega)) (List.getElem?_eq_getElem _)
    have := (Array.getElem?_eq_some_iff.1 hx).1
    omega
  refine Post.write s hid he rfl rfl k1 k2 k3 k4 k5 ⟨_, et, fr, setRow_heap w e.blk c _ et fr hc, ?_, hown, hro, fun j v hv => ?_⟩
  · simp; rw [← hsz]; omega
  · unfold Rx.setSeg at hv
    simp only [List.getElem?_toArray]
    by_cases h1 : j < off
    · rw [List.append_assoc, List.getElem?_append_left (by simp; omega), List.getElem?_take_of_lt h1] at hv
      obtain ⟨x, hx, hrx⟩ := hcell j v hv
      refine ⟨x, ?_, hrx⟩
      rw [List.append_assoc, List.getElem?_append_left (by simp; omega), List.getElem?_take_of_lt (by omega)]
      simpa using hx
    · by_cases h2 : j < off + l.length
      · rw [List.append_assoc, List.getElem?_append_right (by simp; omega), List.getElem?_append_left (by simp; omega)] at hv
        have hmin : min off vals.length = off := by omega
        simp only [List.length_take, hmin] at hv
        obtain ⟨y, hy, hry⟩ := hr.get _ _ hv
        refine ⟨y, ?_, hry⟩
        rw [List.append_assoc, List.getElem?_append_right (by simp; omega), List.getElem?_append_left (by simp; omega)]
        have hm2 : min (e.base + off) c.toList.length = e.base + off := by simp; omega
        simp only [List.length_take, hm2]
        rw [show e.base + j - (e.base + off) = j - off by omega]
        exact hy
      · rw [List.getElem?_append_right (by simp; omega), List.getElem?_drop] at hv
        have hmin : min off vals.length = off := by omega
        simp only [List.length_append, List.length_take, hmin] at hv
        rw [show off + l.length + (j - (off + l.length)) = j by omega] at hv
        obtain ⟨x, hx, hrx⟩ := hcell j v hv
        refine ⟨x, ?_, hrx⟩
        have hm2 : min (e.base + off) c.toList.length = e.base + off := by simp; omega
        rw [List.getElem?_append_right (by simp; omega), List.getElem?_drop]
        simp only [List.length_append, List.length_take, hm2]
        rw [show e.base + off + xs.length + (e.base + j - (e.base + off + xs.length)) = e.base + j by omega]
        simpa using hx

theorem evStore_ok {D : Tab} {P : Program} (hD : D.Ok P) {N0 : Nat} {ρ : Emb} {h h' : H} {w : World} {t : TypeId} {p v : AV} {a x : Value} (s : Sim N0 ρ h.get w) (ha : VR ρ p a) (hx : VR ρ v x) (he : evStore D t p v h = some h') :
    ∃ w', (Instr.storeAt t a x).run P w = .ok () w' ∧ Post N0 ρ h.get h.nx w ρ h'.get h'.nx w' := by
  unfold evStore at he
  split at he
  case h_2 => simp at he
  rename_i id off
  cases ha with
  | ptr _ hid =>
    rename_i e
    split at he
    case h_2 => simp at he
    rename_i vals n b z hg hi
    cases h1 : v.known with
    | false => simp [h1] at he
    | true =>
      cases h2 : allOne v.cs with
      | false => simp [h1, h2] at he
      | true =>
        cases h3 : Nat.beq v.cs.length n with
        | false => simp [h1, h2, h3] at he
        | true =>
          cases h4 : Nat.ble (off + n) vals.length with
          | false => simp [h1, h2, h3, h4] at he
          | true =>
          cases h5 : Nat.ble 1 n with
          | false => simp [h1, h2, h3, h4, h5] at he
          | true =>
            simp only [h1, h2, h3, h4, h5, cond_true, Option.some.injEq] at he
            subst he
            have hn := Nat.eq_of_beq_eq_true h3
            have hfit := Nat.le_of_ble_eq_true h4
            have hpos := Nat.le_of_ble_eq_true h5
            obtain ⟨e', he', ho⟩ := s.obj id _ hg
            rw [hid] at he'; cases he'
            obtain ⟨c, et, fr, hc, hsz, hown, hro, hcell⟩ := ho
            obtain ⟨hge, hfr⟩ := hown rfl
            subst hfr
            have hcells := hx.cells h1
            have hlen := hcells.length
            have hone := hcells.oneCell h2
            refine ⟨_, ?_, (Post.setSeg (nx := h.nx) s hg hid hcells (by omega) (by omega) hc).weaken (h.put_sub _ _) (Nat.le_refl _)⟩
            have hst := run_storeCells_at P e.blk (e.base + off) et x.cells.toList 0 c w hc (by
              obtain ⟨y, hy, _⟩ := hcell (off + v.cs.length - 1) (vals[off + v.cs.length - 1]'(by omega)) (List.getElem?_eq_getElem _)
              have := (Array.getElem?_eq_some_iff.1 hy).1
              omega) hone
            simp only [Nat.add_zero] at hst
            have hsize : x.cells.size = n := by rw [← hn, hlen]; simp
            simp [Instr.storeAt, Instr.sureAddr, storeVar, run_size hD hi, hsize, hst]
end Go.Rx
