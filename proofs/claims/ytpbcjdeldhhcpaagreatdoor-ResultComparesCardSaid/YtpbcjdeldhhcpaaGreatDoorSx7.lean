import Derived.Test.YtpbcjdeldhhcpaaGreatDoorSx6
set_option linter.unusedVariables false
set_option linter.unusedSimpArgs false
set_option linter.unusedSectionVars false
set_option linter.unusedVariables false
noncomputable section
namespace Go.Rx
open Go

/-! ### S9. States that are lists, under other names -/
def lookP : List (Nat × Nat) → Nat → Option Nat
  | [], _ => none
  | (j, i) :: l, x => bif Nat.beq j x then some i else lookP l x
/-- ps: the names behind with what they were; any other one is new. -/
def gOf (ps : List (Nat × Nat)) (nx j : Nat) : Nat := match lookP ps j with
  | some i => i
  | none => nx + j
def keysB (ps : List (Nat × Nat)) (nx : Nat) : Bool := match ps with
  | [] => true
  | (j, _) :: l => bif Nat.blt j nx then keysB l nx else false
theorem keysB_spec : ∀ {ps : List (Nat × Nat)} {nx j i : Nat}, keysB ps nx = true → lookP ps j = some i → j < nx
  | [], nx, j, i, _, h => by simp [lookP] at h
  | (a, b) :: l, nx, j, i, hk, h => by
    rw [keysB] at hk
    obtain ⟨h1, h2⟩ := bif_true hk
    rw [lookP] at h
    cases hb : Nat.beq a j with
    | true =>
      have := Nat.eq_of_beq_eq_true hb
      subst this
      exact Nat.le_of_ble_eq_true h1
    | false => rw [hb] at h; exact keysB_spec h2 h
def notIn (x : Nat) : List Nat → Bool
  | [] => true
  | a :: l => bif Nat.beq a x then false else notIn x l
def nodupB : List Nat → Bool
  | [] => true
  | a :: l => bif notIn a l then nodupB l else false
theorem notIn_spec {x : Nat} : ∀ {l : List Nat}, notIn x l = true → x ∉ l
  | [], _ => by simp
  | a :: l, h => by
    rw [notIn] at h
    cases hb : Nat.beq a x with
    | true => rw [hb] at h; cases h
    | false =>
      rw [hb] at h
      intro hm
      rcases List.mem_cons.1 hm with rfl | hm
      · rw [Nat.beq_refl] at hb; cases hb
      · exact notIn_spec h hm
def TmR (g : Nat → Nat) (F : Nat → Prop) (h : Hp) (tl : List (Nat × Option AV)) : List (Nat × Option AV) → Prop
  | [] => True
  | (i, some v2) :: l => (∃ v, lookL tl i = some v ∧ CV g F h v v2) ∧ TmR g F h tl l
  | (_, none) :: l => TmR g F h tl l
def HpR (g : Nat → Nat) (Fl : List Nat) (h : Hp) (hl : List (Nat × Option AO)) : List (Nat × Option AO) → Prop
  | [] => True
  | (j, some o2) :: l => (∃ o, lookL hl (g j) = some o ∧ notIn (g j) Fl = true ∧ CO g (fun i => i ∈ Fl) h o o2) ∧ HpR g Fl h hl l
  | (_, none) :: l => HpR g Fl h hl l
theorem lookL_mem {α : Type} : ∀ {l : List (Nat × Option α)} {i : Nat} {v : α}, lookL l i = some v → (i, some v) ∈ l
  | [], i, v, h => by simp [lookL] at h
  | (j, u) :: l, i, v, h => by
    rw [lookL_cons] at h
    by_cases hi : i = j
    · subst hi; rw [if_pos rfl] at h; subst h; exact List.mem_cons_self
    · rw [if_neg hi] at h; exact List.mem_cons_of_mem _ (lookL_mem h)
theorem TmR.spec {g : Nat → Nat} {F : Nat → Prop} {h : Hp} {tl : List (Nat × Option AV)} : ∀ {l : List (Nat × Option AV)}, TmR g F h tl l → ∀ i v2, (i, some v2) ∈ l → ∃ v, lookL tl i = some v ∧ CV g F h v v2
  | [], _, i, v2, hm => by cases hm
  | (j, some u) :: l, ht, i, v2, hm => by
    rcases List.mem_cons.1 hm with he | hm
    · cases he; exact ht.1
    · exact TmR.spec ht.2 i v2 hm
  | (j, none) :: l, ht, i, v2, hm => by
    rcases List.mem_cons.1 hm with he | hm
    · cases he
    · exact TmR.spec (l := l) ht i v2 hm
theorem HpR.spec {g : Nat → Nat} {Fl : List Nat} {h : Hp} {hl : List (Nat × Option AO)} : ∀ {l : List (Nat × Option AO)}, HpR g Fl h hl l → ∀ i v2, (i, some v2) ∈ l → ∃ o, lookL hl (g i) = some o ∧ notIn (g i) Fl = true ∧ CO g (fun i => i ∈ Fl) h o v2
  | [], _, i, v2, hm => by cases hm
  | (j, some u) :: l, ht, i, v2, hm => by
    rcases List.mem_cons.1 hm with he | hm
    · cases he; exact ht.1
    · exact HpR.spec ht.2 i v2 hm
  | (j, none) :: l, ht, i, v2, hm => by
    rcases List.mem_cons.1 hm with he | hm
    · cases he
    · exact HpR.spec (l := l) ht i v2 hm
theorem nodup_inj {α : Type} {f : Nat → Nat} : ∀ {l : List (Nat × α)}, nodupB (l.map fun p => f p.1) = true → ∀ p ∈ l, ∀ q ∈ l, f p.1 = f q.1 → p.1 = q.1
  | [], _, p, hp, _, _, _ => by cases hp
  | a :: l, h, p, hp, q, hq, he => by
    rw [List.map_cons, nodupB] at h
    obtain ⟨h1, h2⟩ := bif_true h
    have hn : f a.1 ∉ l.map fun p => f p.1 := notIn_spec h1
    rcases List.mem_cons.1 hp with hpa | hp <;> rcases List.mem_cons.1 hq with hqa | hq
    · rw [hpa, hqa]
    · exact absurd (List.mem_map.2 ⟨q, hq, by rw [← hpa, he]⟩) hn
    · exact absurd (List.mem_map.2 ⟨p, hp, by rw [← hqa, he]⟩) hn
    · exact nodup_inj h2 p hp q hq he

/-- A heap that is a list. -/
def HL (hl : List (Nat × Option AO)) (nx : Nat) : H := { hp := .list hl, nx := nx, hide := [], lo := 0, log := [] }
theorem HL_get (hl : List (Nat × Option AO)) (nx i : Nat) : (HL hl nx).get i = lookL hl i := rfl
/-- A state that is written down. -/
def SL (tl : List (Nat × Option AV)) (nt : Nat) (hl : List (Nat × Option AO)) (nx : Nat) : St := { tm := .list tl, nt := nt, df := [], h := HL hl nx }

theorem Ren.lists {s : St} {tl tl2 : List (Nat × Option AV)} {hl hl2 : List (Nat × Option AO)} {nt nx nx2 lo : Nat} {log : List Nat} (ps : List (Nat × Nat)) (Fl : List Nat)
    (h1 : s = { tm := .list tl, nt := nt, df := [], h := { hp := .list hl, nx := nx, hide := [], lo := lo, log := log } }) (h2 : keysB ps nx2 = true)
    (h3 : TmR (gOf ps nx) (fun i => i ∈ Fl) (lookL hl) tl tl2) (h4 : HpR (gOf ps nx) Fl (lookL hl) hl hl2) (h5 : nodupB (hl2.map fun p => gOf ps nx p.1) = true) :
    ∃ g F, Ren 0 none s (SL tl2 nt hl2 nx2) g F := by
  subst h1
  refine ⟨gOf ps nx, fun i => i ∈ Fl, rfl, rfl, fun d hd => (by cases hd), fun j hj => ?_, fun j hj => (by omega), fun r hr => (by cases hr), fun i j oi oj hi hj he => ?_, fun i v2 hv => ?_, fun j o2 ho => ?_⟩
  · show nx ≤ gOf ps nx j
    unfold gOf
    cases hl : lookP ps j with
    | none => simp only; omega
    | some i => have := keysB_spec h2 hl; have : nx2 ≤ j := hj; omega
  · exact nodup_inj h5 _ (lookL_mem hi) _ (lookL_mem hj) he
  · exact h3.spec i v2 (lookL_mem hv)
  · obtain ⟨o, k1, k2, k3⟩ := h4.spec j o2 (lookL_mem ho)
    exact ⟨o, k1, notIn_spec k2, k3⟩
/-- The same, where the state ahead is forgotten in part alone. -/
theorem Ren.same {s : St} {tl tl2 : List (Nat × Option AV)} {nt : Nat} {h : H} (h1 : s = { tm := .list tl, nt := nt, df := [], h := h }) (h3 : TmR (fun j => j) (fun _ => False) h.get tl tl2) :
    ∃ g F, Ren 0 none s { tm := .list tl2, nt := nt, df := [], h := h } g F := by
  subst h1
  refine ⟨fun j => j, fun _ => False, rfl, rfl, fun d hd => (by cases hd), fun j hj => hj, fun j hj => (by omega), fun r hr => (by cases hr), fun i j oi oj hi hj he => he, fun i v2 hv => ?_, fun j o2 ho => ?_⟩
  · exact h3.spec i v2 (lookL_mem hv)
  · exact ⟨o2, ho, fun hf => hf, CO.refl _ _ _⟩

/-! ### S10. What a function hands back -/
theorem CV.free' {g : Nat → Nat} {F : Nat → Prop} {h : Hp} {v v2 : AV} (he : v = v2) (hf : v2.free = true) : CV g F h v v2 := by subst he; exact .free hf
theorem Fz.free {h : H} {v v2 : AV} (he : v = v2) (hf : v2.free = true) : Fz h v v2 := ⟨.free' he hf, hf⟩
theorem Fz.int {h : H} {k : IntKind} {a b : Int} (he : a = b) : Fz h (.int k a) (.int k b) := .free (by rw [he]) rfl
theorem Fz.bool {h : H} {a b : Bool} (he : a = b) : Fz h (.bool a) (.bool b) := .free (by rw [he]) rfl
theorem Fz.str {h : H} {a b : ByteArray} (he : a = b) : Fz h (.str a) (.str b) := .free (by rw [he]) rfl

/-! ### S11. Values of kinds -/
def vint (n : Int) : AV := .int .i64 n
/-- A slice of elements of m cells. -/
def vlist {α : Type} (m : Nat) (enc : α → List AV) (l : List α) : AV := .view (l.flatMap enc) 0 l.length m
def vone {α : Type} (enc : α → AV) (l : List α) : AV := .view (l.map enc) 0 l.length 1
def vints (l : List Int) : AV := vone vint l
def vstrs (l : List ByteArray) : AV := vone .str l
theorem frees_map {α : Type} {f : α → AV} (h : ∀ a, (f a).free = true) (l : List α) : AV.frees (l.map f) = true := by
  rw [AV.frees_iff]; intro a ha; obtain ⟨x, _, rfl⟩ := List.mem_map.1 ha; exact h x
theorem frees_flatMap {α : Type} {f : α → List AV} (h : ∀ a, AV.frees (f a) = true) (l : List α) : AV.frees (l.flatMap f) = true := by
  rw [AV.frees_iff]; intro a ha; obtain ⟨x, _, hx⟩ := List.mem_flatMap.1 ha; exact AV.frees_iff.1 (h x) a hx
theorem vone_free {α : Type} {f : α → AV} (h : ∀ a, (f a).free = true) (l : List α) : (vone f l).free = true := by
  show AV.frees (l.map f) = true; exact frees_map h l
theorem vlist_free {α : Type} {m : Nat} {f : α → List AV} (h : ∀ a, AV.frees (f a) = true) (l : List α) : (vlist m f l).free = true := by
  show AV.frees (l.flatMap f) = true; exact frees_flatMap h l
theorem vints_free (l : List Int) : (vints l).free = true := vone_free (fun _ => rfl) l
theorem vstrs_free (l : List ByteArray) : (vstrs l).free = true := vone_free (fun _ => rfl) l

theorem onT {A B : Prop} (h : A) : (true = true → A) ∧ (true = false → B) := ⟨fun _ => h, fun h => (by cases h)⟩
theorem onF {A B : Prop} (h : B) : (false = true → A) ∧ (false = false → B) := ⟨fun h => (by cases h), fun _ => h⟩
theorem onB {A B : Prop} {c : Bool} (h1 : c = true → A) (h2 : c = false → B) : (c = true → A) ∧ (c = false → B) := ⟨h1, h2⟩
theorem onNB {A B : Prop} {c : Bool} (h1 : c = false → A) (h2 : c = true → B) : ((!c) = true → A) ∧ ((!c) = false → B) := ⟨fun h => h1 (by simpa using h), fun h => h2 (by simpa using h)⟩
theorem onP {A B : Prop} {p : Prop} {d : Decidable p} (h1 : p → A) (h2 : ¬ p → B) : (@decide p d = true → A) ∧ (@decide p d = false → B) := ⟨fun h => h1 (of_decide_eq_true h), fun h => h2 (of_decide_eq_false h)⟩
theorem onPt {A B : Prop} {p : Prop} {d : Decidable p} (hp : p) (h : A) : (@decide p d = true → A) ∧ (@decide p d = false → B) := ⟨fun _ => h, fun h => absurd hp (of_decide_eq_false h)⟩
theorem onPf {A B : Prop} {p : Prop} {d : Decidable p} (hp : ¬ p) (h : B) : (@decide p d = true → A) ∧ (@decide p d = false → B) := ⟨fun h => absurd (of_decide_eq_true h) hp, fun _ => h⟩
theorem onNt {A B : Prop} {p : Prop} {d : Decidable p} (hp : p) (h : B) : ((!(@decide p d)) = true → A) ∧ ((!(@decide p d)) = false → B) := ⟨fun h => absurd hp (by simpa using h), fun _ => h⟩
theorem onNf {A B : Prop} {p : Prop} {d : Decidable p} (hp : ¬ p) (h : A) : ((!(@decide p d)) = true → A) ∧ ((!(@decide p d)) = false → B) := ⟨fun _ => h, fun h => absurd (by simpa using h) hp⟩
theorem onN {A B : Prop} {p : Prop} {d : Decidable p} (h1 : ¬ p → A) (h2 : p → B) : ((!(@decide p d)) = true → A) ∧ ((!(@decide p d)) = false → B) := ⟨fun h => h1 (by simpa using h), fun h => h2 (by simpa using h)⟩

theorem onO {D : Tab} {g : FuncId} {A : Prop} (h : okF D g = true) (h2 : A) : okF D g = true ∧ A := ⟨h, h2⟩
theorem onS {l : List Oper} {A : Prop} (h : staticOk l = true) (h2 : A) : staticOk l = true ∧ A := ⟨h, h2⟩
theorem onR {P : Program} {D : Tab} {all : List Oper} {hs : List H} {i : Nat} {os : List Oper} {tr : List (T AV × AV)} {A : Prop} (h : rdAll P D all hs i os tr) (h2 : A) : rdAll P D all hs i os tr ∧ A := ⟨h, h2⟩
theorem onA {P : Program} {D : Tab} {all : List Oper} {hs : List H} {i : Nat} {os : List Oper} {tr : List (T AV × AV)} {A : Prop} (h : rdAllA P D all hs os tr) (h2 : A) : rdAll P D all hs i os tr ∧ A := ⟨rdAllA_ok i h, h2⟩
theorem rd_at {P : Program} {D : Tab} {all : List Oper} {o : Oper} {tm : T AV} {v : AV} {h : H} (hw : wantedA all tm o = some true) (he : evP P D (evalO tm) o h = some v) : rdAt P D all o tm v h := by
  unfold rdAt; rw [hw]; exact he
theorem onC {P : Program} {f : FuncId} {args : List AV} {h : H} {v : AV} {k : AV → H → Prop} (hc : PureC P f args v) (h2 : k v h) : ∃ v h', CRuns P f args h v h' ∧ k v h' := ⟨v, h, hc h, h2⟩
theorem get_ex {α : Type} {l : List α} {i : Nat} (h : i < l.length) : ∃ a, l[i]? = some a ∧ l.drop i = a :: l.drop (i + 1) := ⟨_, List.getElem?_eq_getElem h, List.drop_eq_getElem_cons h⟩

theorem cv_ints {g : Nat → Nat} {F : Nat → Prop} {h : Hp} (l : List Int) : CVs g F h (l.map vint) (l.map vint) := CVs.free (frees_map (fun _ => rfl) l)

/-! ### S12. Operations with variables -/
section
variable {P : Program} {D : Tab}
theorem ix_view {t e : TypeId} {m b : Nat} {z : Value} {vals : List AV} {off len : Nat} {k : IntKind} {i : Int} (hu : D.und t = some (.slice e)) (hi : D.info e = some (m, b, z)) (h0 : 0 ≤ i) (hl : i < len) :
    evIndexAddr D t (.view vals off len m) (.int k i) = some (.vptr vals (off + i.toNat * m)) := by
  obtain ⟨n, rfl⟩ := Int.eq_ofNat_of_zero_le h0
  have : Nat.ble len n = false := by
    cases hb : Nat.ble len n with
    | false => rfl
    | true => have := Nat.le_of_ble_eq_true hb; omega
  simp [evIndexAddr, natOf, hu, hi, this]
theorem ix_own {t e : TypeId} {m b : Nat} {z : Value} {id off len : Nat} {k : IntKind} {i : Int} (hu : D.und t = some (.slice e)) (hi : D.info e = some (m, b, z)) (h0 : 0 ≤ i) (hl : i < len) :
    evIndexAddr D t (.slice id off len m) (.int k i) = some (.ptr id (off + i.toNat * m)) := by
  obtain ⟨n, rfl⟩ := Int.eq_ofNat_of_zero_le h0
  have : Nat.ble len n = false := by
    cases hb : Nat.ble len n with
    | false => rfl
    | true => have := Nat.le_of_ble_eq_true hb; omega
  simp [evIndexAddr, natOf, hu, hi, this]
theorem ld_one {t : TypeId} {vals : List AV} {o : Nat} {v : AV} {h : H} (ha : D.isAgg t = some false) (hv : vals[o]? = some v) : evLoad D t (.vptr vals o) h = some v := by
  simp [evLoad, evLoadC, ha, hv]
theorem flat_get {α : Type} {enc : α → List AV} {m : Nat} (hm : ∀ a, (enc a).length = m) : ∀ {l : List α} {i : Nat} {a : α} (c : Nat), l[i]? = some a → c < m → (l.flatMap enc)[i * m + c]? = (enc a)[c]?
  | [], i, a, c, h, _ => by simp at h
  | x :: l, 0, a, c, h, hc => by
    simp only [List.getElem?_cons_zero, Option.some.injEq] at h
    subst h
    rw [List.flatMap_cons, Nat.zero_mul, Nat.zero_add, List.getElem?_append_left (by rw [hm]; exact hc)]
  | x :: l, i + 1, a, c, h, hc => by
    rw [List.flatMap_cons, List.getElem?_append_right (by rw [hm, Nat.add_mul]; omega), hm, show (i + 1) * m + c - m = i * m + c by rw [Nat.add_mul]; omega]
    exact flat_get hm c (by simpa using h) hc
theorem flat_len {α : Type} {enc : α → List AV} {m : Nat} (hm : ∀ a, (enc a).length = m) : ∀ (l : List α), (l.flatMap enc).length = l.length * m
  | [] => by simp
  | x :: l => by rw [List.flatMap_cons, List.length_append, hm, flat_len hm l, List.length_cons, Nat.add_mul]; omega
/-- A field of an element. -/
theorem ld_fld {α : Type} {enc : α → List AV} {m : Nat} {t : TypeId} {l : List α} {i c : Nat} {a : α} {v : AV} {h : H} (ha : D.isAgg t = some false) (hm : ∀ a, (enc a).length = m) (hl : l[i]? = some a) (hv : (enc a)[c]? = some v) : evLoad D t (.vptr (l.flatMap enc) (0 + i * m + c)) h = some v := by
  refine ld_one ha ?_
  have hc : c < m := by rw [← hm a]; exact (List.getElem?_eq_some_iff.1 hv).1
  rw [show 0 + i * m + c = i * m + c by omega, flat_get hm c hl hc, hv]
/-- An element of one cell. -/
theorem ld_elt {α : Type} {enc : α → AV} {t : TypeId} {l : List α} {i : Nat} {a : α} {h : H} (ha : D.isAgg t = some false) (hl : l[i]? = some a) : evLoad D t (.vptr (l.map enc) (0 + i * 1)) h = some (enc a) := by
  refine ld_one ha ?_
  rw [show 0 + i * 1 = i by omega, List.getElem?_map, hl]; rfl
/-- An element of several cells. -/
theorem flat_seg {α : Type} {enc : α → List AV} {m : Nat} (hm : ∀ a, (enc a).length = m) {l : List α} {i : Nat} {a : α} (hl : l[i]? = some a) : seg (l.flatMap enc) (0 + i * m) m = some (enc a) := by
  have : ((l.flatMap enc).drop (0 + i * m)).take m = enc a := by
    apply List.ext_getElem?
    intro j
    by_cases hj : j < m
    · rw [List.getElem?_take_of_lt hj, List.getElem?_drop, show 0 + i * m + j = i * m + j by omega, flat_get hm j hl hj]
    · rw [List.getElem?_eq_none (by simp; omega), List.getElem?_eq_none (by rw [hm]; omega)]
  unfold seg
  simp only [this, hm]
  rw [Nat.beq_refl]; rfl
theorem ld_agg {t : TypeId} {n b : Nat} {z : Value} {vals : List AV} {o : Nat} {l : List AV} {h : H} (ha : D.isAgg t = some true) (hi : D.info t = some (n, b, z)) (hs : seg vals o n = some l) : evLoad D t (.vptr vals o) h = some (.agg l) := by
  simp [evLoad, evLoadC, ha, hi, hs]
theorem idx_str (hD : D.Ok P) {t : TypeId} {s : ByteArray} {k : IntKind} {i : Int} {c : UInt8} (hu : D.und t = some .string) (h0 : 0 ≤ i) (hc : s.data.toList[i.toNat]? = some c) : evIndex P D t (.str s) (.int k i) = some (.int .u8 c.toNat) := by
  have hp := hD.und t _ hu
  have hs : s[i.toNat]? = some c := by
    obtain ⟨hlt, he⟩ := List.getElem?_eq_some_iff.1 hc
    have hlt' : i.toNat < s.size := by simpa using hlt
    rw [getElem?_pos s i.toNat hlt', ← he]
    simp [ByteArray.getElem_eq_getElem_data]
  have : pureRun P (Instr.index t (.string s) (.int k i)) = some (.int .u8 c.toNat) := by
    show pureRun P (underlying t >>= _) = _
    refine (pure_und hp _).trans ?_
    simp only [if_pos h0, hs]
    rfl
  simp [evIndex, AV.val, evPure, this, ofVal, ofVal1]
theorem ld_row {α : Type} {enc : α → List AV} {m : Nat} {t : TypeId} {b : Nat} {z : Value} {l : List α} {i : Nat} {a : α} {h : H} (ha : D.isAgg t = some true) (hi : D.info t = some (m, b, z)) (hm : ∀ a, (enc a).length = m) (hl : l[i]? = some a) : evLoad D t (.vptr (l.flatMap enc) (0 + i * m)) h = some (.agg (enc a)) :=
  ld_agg ha hi (flat_seg hm hl)
theorem nx_end {id pos : Nat} {s : ByteArray} {h : H} (hg : h.get id = some (.siter s pos)) (hp : s.size ≤ pos) : evNext (.ptr id 0) true h = some (.tuple [.bool false], h) := by
  simp [evNext, hg, Nat.ble_eq_true_of_le hp]
theorem nx_on {id pos : Nat} {s : ByteArray} {h : H} (hg : h.get id = some (.siter s pos)) (hp : pos < s.size) : evNext (.ptr id 0) true h = some (.tuple [.bool true, .int .i64 pos, .int .i32 (Utf8.decode s pos).1], h.put id (some (.siter s (pos + (Utf8.decode s pos).2)))) := by
  have : Nat.ble s.size pos = false := by
    cases hb : Nat.ble s.size pos with
    | false => rfl
    | true => have := Nat.le_of_ble_eq_true hb; omega
  simp [evNext, hg, this]
theorem dec_get {s : ByteArray} {i : Nat} {c : UInt8} (hc : s.data.toList[i]? = some c) : s.get! i = c := by
  obtain ⟨hlt, he⟩ := List.getElem?_eq_some_iff.1 hc
  have hlt' : i < s.data.size := by simpa using hlt
  show s.data[i]! = c
  rw [getElem!_pos s.data i hlt', ← he]
  simp
theorem dec_low {s : ByteArray} {i : Nat} {c : UInt8} (hc : s.data.toList[i]? = some c) (hl : c.toNat < 128) : Utf8.decode s i = (c.toNat, 1) := by
  simp only [Utf8.decode, Nat.add_zero, dec_get hc, if_pos hl]
theorem dec_high {s : ByteArray} {i : Nat} {c : UInt8} (hc : s.data.toList[i]? = some c) (hl : 128 ≤ c.toNat) : 128 ≤ (Utf8.decode s i).1 := by
  simp only [Utf8.decode, Nat.add_zero, dec_get hc, if_neg (show ¬ c.toNat < 128 by omega)]
  have hr : 128 ≤ Utf8.runeError := by decide
  repeat' split
  all_goals first
    | exact hr
    | (simp only; omega)
    | (rename_i h; simp only [ge_iff_le, Bool.and_eq_true, decide_eq_true_eq] at h; simp only; omega)
theorem fits (n : Int) : inI n = true ↔ -9223372036854775808 ≤ n ∧ n ≤ 9223372036854775807 := by
  constructor
  · exact inI_spec
  · intro ⟨h1, h2⟩
    cases n with
    | ofNat n => exact Nat.ble_eq_true_of_le (by have : (Int.ofNat n) = (n : Int) := rfl; omega)
    | negSucc n => exact Nat.ble_eq_true_of_le (by have : (Int.negSucc n) = -(n : Int) - 1 := by omega
                                                   omega)
theorem add_int {t : TypeId} {X Y : Operand} {a b : Int} (h : -9223372036854775808 ≤ a + b ∧ a + b ≤ 9223372036854775807) : evBin P D .add t X Y (.int .i64 a) (.int .i64 b) = some (.int .i64 (a + b)) :=
  fast_int rfl (by show putI .i64 (a + b) = _; unfold putI; rw [(fits _).2 h]; rfl)
theorem sub_int {t : TypeId} {X Y : Operand} {a b : Int} (h : -9223372036854775808 ≤ a - b ∧ a - b ≤ 9223372036854775807) : evBin P D .sub t X Y (.int .i64 a) (.int .i64 b) = some (.int .i64 (a - b)) :=
  fast_int rfl (by show putI .i64 (a - b) = _; unfold putI; rw [(fits _).2 h]; rfl)
theorem mul_int {t : TypeId} {X Y : Operand} {a b : Int} (h : -9223372036854775808 ≤ a * b ∧ a * b ≤ 9223372036854775807) : evBin P D .mul t X Y (.int .i64 a) (.int .i64 b) = some (.int .i64 (a * b)) :=
  fast_int rfl (by show putI .i64 (a * b) = _; unfold putI; rw [(fits _).2 h]; rfl)
end
end Go.Rx
