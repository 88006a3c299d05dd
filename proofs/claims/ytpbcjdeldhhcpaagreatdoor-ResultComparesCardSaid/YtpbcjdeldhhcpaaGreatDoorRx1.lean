import Derived.CallsIn
import Derived.OrdersIn
import Derived.RangeFuncIn
import Derived.Below
import Derived.Laws.World
import Derived.Laws.Sem
set_option linter.unusedVariables false
set_option linter.unusedSimpArgs false
set_option linter.unusedSectionVars false
noncomputable section
namespace Go.Rx
open Go

/-! ### 1. Finite maps from numbers, made for the kernel -/
inductive T (α : Type) where
  | nil
  | node (v : Option α) (l r : T α)
  | list (l : List (Nat × Option α))

/-- Looks up in a list of pairs; the first one counts. -/
def lookL {α : Type} : List (Nat × Option α) → Nat → Option α
  | [], _ => none
  | (j, v) :: l, i => bif Nat.beq j i then v else lookL l i

noncomputable def T.get {α : Type} (t : T α) : Nat → Option α :=
  T.rec (motive := fun _ => Nat → Option α) (fun _ => none) (fun v _ _ l r i => Bool.rec (motive := fun _ => Option α) (Bool.rec (motive := fun _ => Option α) (r (Nat.sub (Nat.div i 2) 1)) (l (Nat.div i 2)) (Nat.beq (Nat.mod i 2) 1)) v (Nat.beq i 0)) (fun l i => lookL l i) t

noncomputable def T.setA {α : Type} (v : Option α) (f : T α → Nat → T α) (i : Nat) (v0 : Option α) (l r : T α) : T α :=
  Bool.rec (motive := fun _ => T α) (Bool.rec (motive := fun _ => T α) (.node v0 l (f r (Nat.sub (Nat.div i 2) 1))) (.node v0 (f l (Nat.div i 2)) r) (Nat.beq (Nat.mod i 2) 1)) (.node v l r) (Nat.beq i 0)
noncomputable def T.setF {α : Type} (v : Option α) (n : Nat) : T α → Nat → T α :=
  Nat.rec (motive := fun _ => T α → Nat → T α) (fun t _ => t) (fun _ f t i => T.rec (motive := fun _ => T α) (T.setA v f i none .nil .nil) (fun v0 l r _ _ => T.setA v f i v0 l r) (fun l => .list ((i, v) :: l)) t) n
noncomputable def T.set {α : Type} (t : T α) (i : Nat) (v : Option α) : T α :=
  T.rec (motive := fun _ => T α) (T.setF v (Nat.succ i) .nil i) (fun v0 l r _ _ => T.setF v (Nat.succ i) (.node v0 l r) i) (fun l => .list ((i, v) :: l)) t
theorem T.get_nil {α : Type} (i : Nat) : (T.nil : T α).get i = none := rfl
theorem T.get_list {α : Type} (l : List (Nat × Option α)) (i : Nat) : (T.list l).get i = lookL l i := rfl
theorem lookL_cons {α : Type} (j : Nat) (v : Option α) (l : List (Nat × Option α)) (i : Nat) : lookL ((j, v) :: l) i = if i = j then v else lookL l i := by
  rw [lookL]
  cases hb : Nat.beq j i with
  | true => rw [if_pos (Nat.eq_of_beq_eq_true hb).symm]; rfl
  | false => rw [if_neg (fun he => by subst he; rw [Nat.beq_refl] at hb; cases hb)]; rfl
theorem T.get_node {α : Type} (v : Option α) (l r : T α) (i : Nat) : (T.node v l r).get i = if i = 0 then v else if i % 2 = 1 then l.get (i / 2) else r.get (i / 2 - 1) := by
  show Bool.rec (motive := fun _ => Option α) (Bool.rec (motive := fun _ => Option α) (r.get (i / 2 - 1)) (l.get (i / 2)) (Nat.beq (i % 2) 1)) v (Nat.beq i 0) = _
  by_cases h : i = 0
  · subst h; rfl
  · rw [if_neg h]
    have h1 : Nat.beq i 0 = false := by
      cases hb : Nat.beq i 0 with
      | false => rfl
      | true => exact absurd (Nat.eq_of_beq_eq_true hb) h
    rw [h1]
    by_cases h2 : i % 2 = 1
    · rw [if_pos h2, h2]; rfl
    · rw [if_neg h2]
      have h3 : Nat.beq (i % 2) 1 = false := by
        cases hb : Nat.beq (i % 2) 1 with
        | false => rfl
        | true => exact absurd (Nat.eq_of_beq_eq_true hb) h2
      rw [h3]
theorem T.setA_eq {α : Type} (v : Option α) (f : T α → Nat → T α) (i : Nat) (v0 : Option α) (l r : T α) :
    T.setA v f i v0 l r = if i = 0 then .node v l r else if i % 2 = 1 then .node v0 (f l (i / 2)) r else .node v0 l (f r (i / 2 - 1)) := by
  show Bool.rec (motive := fun _ => T α) (Bool.rec (motive := fun _ => T α) (.node v0 l (f r (i / 2 - 1))) (.node v0 (f l (i / 2)) r) (Nat.beq (i % 2) 1)) (.node v l r) (Nat.beq i 0) = _
  by_cases h : i = 0
  · subst h; rfl
  · rw [if_neg h]
    have h1 : Nat.beq i 0 = false := by
      cases hb : Nat.beq i 0 with
      | false => rfl
      | true => exact absurd (Nat.eq_of_beq_eq_true hb) h
    rw [h1]
    by_cases h2 : i % 2 = 1
    · rw [if_pos h2, h2]; rfl
    · rw [if_neg h2]
      have h3 : Nat.beq (i % 2) 1 = false := by
        cases hb : Nat.beq (i % 2) 1 with
        | false => rfl
        | true => exact absurd (Nat.eq_of_beq_eq_true hb) h2
      rw [h3]

theorem T.get_setF {α : Type} (v : Option α) : ∀ (n : Nat) (t : T α) (i j : Nat), i < n → (T.setF v n t i).get j = if j = i then v else t.get j
  | 0, _, _, _, h => absurd h (Nat.not_lt_zero _)
  | n + 1, t, i, j, h => by
    have key : ∀ (v0 : Option α) (l r : T α), (T.setA v (T.setF v n) i v0 l r).get j = if j = i then v else (T.node v0 l r).get j := fun v0 l r => by
      rw [T.setA_eq]
      by_cases h0 : i = 0
      · subst h0
        rw [if_pos rfl, T.get_node, T.get_node]
        by_cases hj : j = 0
        · simp [hj]
        · simp [hj]
      · rw [if_neg h0]
        by_cases h1 : i % 2 = 1
        · rw [if_pos h1, T.get_node, T.get_node]
          by_cases hj : j = 0
          · subst hj; rw [if_pos rfl, if_neg (by omega), if_pos rfl]
          · rw [if_neg hj, if_neg hj]
            by_cases hj1 : j % 2 = 1
            · rw [if_pos hj1, if_pos hj1, T.get_setF v n _ _ _ (by omega)]
              by_cases e : j = i
              · subst e; simp
              · rw [if_neg e, if_neg (by omega)]
            · rw [if_neg hj1, if_neg hj1, if_neg (by omega)]
        · rw [if_neg h1, T.get_node, T.get_node]
          by_cases hj : j = 0
          · subst hj; rw [if_pos rfl, if_neg (by omega), if_pos rfl]
          · rw [if_neg hj, if_neg hj]
            by_cases hj1 : j % 2 = 1
            · rw [if_pos hj1, if_pos hj1, if_neg (by omega)]
            · rw [if_neg hj1, if_neg hj1, T.get_setF v n _ _ _ (by omega)]
              by_cases e : j = i
              · subst e; simp
              · rw [if_neg e, if_neg (by omega)]
    cases t with
    | nil =>
      have := key none .nil .nil
      show (T.setA v (T.setF v n) i none .nil .nil).get j = _
      rw [this]
      split
      · rfl
      · rw [T.get_node]; simp [T.get_nil]
    | node v0 l r => exact key v0 l r
    | list l => exact lookL_cons i v l j

theorem T.get_set {α : Type} (t : T α) (i j : Nat) (v : Option α) : (t.set i v).get j = if j = i then v else t.get j := by
  cases t with
  | nil => exact T.get_setF v (i + 1) .nil i j (Nat.lt_succ_self i)
  | node v0 l r => exact T.get_setF v (i + 1) (.node v0 l r) i j (Nat.lt_succ_self i)
  | list l => exact lookL_cons i v l j

def T.All {α : Type} : T α → (Nat → α → Prop) → Prop
  | .nil, _ => True
  | .node v l r, p => (∀ x, v = some x → p 0 x) ∧ l.All (fun i => p (2 * i + 1)) ∧ r.All (fun i => p (2 * i + 2))
  | .list l, p => ∀ i x, lookL l i = some x → p i x
theorem T.All.get {α : Type} : ∀ {t : T α} {p : Nat → α → Prop}, t.All p → ∀ {i : Nat} {x : α}, t.get i = some x → p i x
  | .nil, _, _, i, x, h => by simp [T.get_nil] at h
  | .list l, p, hp, i, x, h => hp i x h
  | .node v l r, p, ⟨h0, h1, h2⟩, i, x, h => by
    rw [T.get_node] at h
    by_cases hi : i = 0
    · subst hi; rw [if_pos rfl] at h; exact h0 x h
    · rw [if_neg hi] at h
      by_cases ho : i % 2 = 1
      · rw [if_pos ho] at h
        have := T.All.get h1 h
        rwa [show 2 * (i / 2) + 1 = i by omega] at this
      · rw [if_neg ho] at h
        have := T.All.get h2 h
        rwa [show 2 * (i / 2 - 1) + 2 = i by omega] at this
theorem T.all_nil {α : Type} (p : Nat → α → Prop) : T.All .nil p := trivial
theorem T.all_some {α : Type} {v : α} {l r : T α} {p : Nat → α → Prop} (h : p 0 v) (hl : l.All fun i => p (2 * i + 1)) (hr : r.All fun i => p (2 * i + 2)) : T.All (.node (some v) l r) p := ⟨fun x hx => (by cases hx; exact h), hl, hr⟩
theorem T.all_none {α : Type} {l r : T α} {p : Nat → α → Prop} (hl : l.All fun i => p (2 * i + 1)) (hr : r.All fun i => p (2 * i + 2)) : T.All (.node none l r) p := ⟨fun x hx => (by cases hx), hl, hr⟩

/-! ### 2. Abstract values -/
inductive AV where
  | any
  | bool (b : Bool)
  | int (k : IntKind) (n : Int)
  | str (s : ByteArray)
  | ptr (id off : Nat)
  | nilp
  | slice (id off len esz : Nat)
  | nils
  | map (id : Nat)
  | nilm
  | func (fn : Fn) (first captured : List AV)
  | yield (id : Nat)
  | nilf
  | agg (cs : List AV)
  | tuple (vs : List AV)
  | view (vals : List AV) (off len esz : Nat)
  | vptr (vals : List AV) (off : Nat)

/-- Where an abstract block lies: a block of the world, where it begins in it, and how many cells the block has. -/
structure E where
  blk : Nat
  base : Nat
  size : Nat
/-- Where the abstract blocks lie; and the frozen blocks, which no one writes any more, with what they hold. -/
structure Emb where
  f : Nat → Option E
  fz : Nat → Option Obj
instance : CoeFun Emb (fun _ => Nat → Option E) := ⟨Emb.f⟩

mutual
inductive VR (ρ : Emb) : AV → Value → Prop
  | any (v : Value) : VR ρ .any v
  | bool (b : Bool) : VR ρ (.bool b) (.bool b)
  | int (k : IntKind) (n : Int) : VR ρ (.int k n) (.int k n)
  | str (s : ByteArray) : VR ρ (.str s) (.string s)
  | ptr {id : Nat} {e : E} (off : Nat) (h : ρ id = some e) : VR ρ (.ptr id off) (.pointer (some ⟨e.blk, e.base + off, none⟩))
  | nilp : VR ρ .nilp (.pointer none)
  | slice {id : Nat} {e : E} (off len cap esz : Nat) (h : ρ id = some e) (hl : len ≤ cap) (hb : e.base + off + cap * esz ≤ e.size) : VR ρ (.slice id off len esz) (.slice (some ⟨e.blk, e.base + off, none⟩) len cap)
  | slice0 {id off esz : Nat} (a : Addr) : VR ρ (.slice id off 0 esz) (.slice (some a) 0 0)
  | nils : VR ρ .nils (.slice none 0 0)
  | map {id : Nat} {e : E} (h : ρ id = some e) : VR ρ (.map id) (.map (some e.blk))
  | nilm : VR ρ .nilm (.map none)
  | func {first captured : List AV} {f' c' : List Value} (fn : Fn) (hf : VRs ρ first f') (hc : VRs ρ captured c') : VR ρ (.func fn first captured) (.func fn f'.toArray c'.toArray)
  | yield {id : Nat} {e : E} (h : ρ id = some e) : VR ρ (.yield id) (.func (.yield e.blk) #[] #[])
  | nilf : VR ρ .nilf .nilFunc
  | agg {cs : List AV} {vs : List Value} (h : VRs ρ cs vs) : VR ρ (.agg cs) (.agg vs.toArray)
  | tuple {cs : List AV} {vs : List Value} (h : VRs ρ cs vs) : VR ρ (.tuple cs) (.tuple vs.toArray)
  | view {vals : List AV} {xs : List Value} {b base : Nat} {c : Array Value} {et : TypeId} {fr : Nat × Nat} (off len cap esz : Nat) (hf : ρ.fz b = some (.cells c et fr)) (hx : ∀ (j : Nat) (x : Value), xs[j]? = some x → c[base + j]? = some x) (h : VRs ρ vals xs)
    (hl : len ≤ cap) (hb : base + off + cap * esz ≤ c.size) : VR ρ (.view vals off len esz) (.slice (some ⟨b, base + off, none⟩) len cap)
  | view0 {vals : List AV} {off esz : Nat} (a : Addr) : VR ρ (.view vals off 0 esz) (.slice (some a) 0 0)
  | viewN {vals : List AV} {off esz : Nat} : VR ρ (.view vals off 0 esz) (.slice none 0 0)
  | vptr {vals : List AV} {xs : List Value} {b base : Nat} {c : Array Value} {et : TypeId} {fr : Nat × Nat} (off : Nat) (hf : ρ.fz b = some (.cells c et fr)) (hx : ∀ (j : Nat) (x : Value), xs[j]? = some x → c[base + j]? = some x) (h : VRs ρ vals xs) :
    VR ρ (.vptr vals off) (.pointer (some ⟨b, base + off, none⟩))
inductive VRs (ρ : Emb) : List AV → List Value → Prop
  | nil : VRs ρ [] []
  | cons {a : AV} {v : Value} {as : List AV} {vs : List Value} (h : VR ρ a v) (t : VRs ρ as vs) : VRs ρ (a :: as) (v :: vs)
end

structure Emb.le (ρ ρ' : Emb) : Prop where
  id : ∀ id e, ρ id = some e → ρ' id = some e
  fz : ∀ b o, ρ.fz b = some o → ρ'.fz b = some o
instance (ρ ρ' : Emb) : CoeFun (ρ.le ρ') (fun _ => ∀ id e, ρ id = some e → ρ' id = some e) := ⟨Emb.le.id⟩
theorem Emb.le_refl (ρ : Emb) : ρ.le ρ := ⟨fun _ _ h => h, fun _ _ h => h⟩
theorem Emb.le_trans {a b c : Emb} (h : a.le b) (k : b.le c) : a.le c := ⟨fun id e he => k id e (h id e he), fun x o he => k.fz x o (h.fz x o he)⟩

mutual
theorem VR.mono {ρ ρ' : Emb} (hle : ρ.le ρ') : ∀ {a : AV} {v : Value}, VR ρ a v → VR ρ' a v
  | _, _, .any v => .any v
  | _, _, .bool b => .bool b
  | _, _, .int k n => .int k n
  | _, _, .str s => .str s
  | _, _, .ptr off h => .ptr off (hle _ _ h)
  | _, _, .nilp => .nilp
  | _, _, .slice off len cap esz h hl hb => .slice off len cap esz (hle _ _ h) hl hb
  | _, _, .slice0 a => .slice0 a
  | _, _, .nils => .nils
  | _, _, .map h => .map (hle _ _ h)
  | _, _, .nilm => .nilm
  | _, _, .func fn hf hc => .func fn (VRs.mono hle hf) (VRs.mono hle hc)
  | _, _, .yield h => .yield (hle _ _ h)
  | _, _, .nilf => .nilf
  | _, _, .agg h => .agg (VRs.mono hle h)
  | _, _, .tuple h => .tuple (VRs.mono hle h)
  | _, _, .view off len cap esz hf hx h hl hb => .view off len cap esz (hle.fz _ _ hf) hx (VRs.mono hle h) hl hb
  | _, _, .view0 a => .view0 a
  | _, _, .viewN => .viewN
  | _, _, .vptr off hf hx h => .vptr off (hle.fz _ _ hf) hx (VRs.mono hle h)
theorem VRs.mono {ρ ρ' : Emb} (hle : ρ.le ρ') : ∀ {a : List AV} {v : List Value}, VRs ρ a v → VRs ρ' a v
  | _, _, .nil => .nil
  | _, _, .cons h t => .cons (VR.mono hle h) (VRs.mono hle t)
end

theorem VRs.length {ρ : Emb} : ∀ {a : List AV} {v : List Value}, VRs ρ a v → a.length = v.length
  | _, _, .nil => rfl
  | _, _, .cons _ t => by simp [VRs.length t]
theorem VRs.get {ρ : Emb} : ∀ {a : List AV} {v : List Value}, VRs ρ a v → ∀ (i : Nat) (x : AV), a[i]? = some x → ∃ y, v[i]? = some y ∧ VR ρ x y
  | _, _, .nil, i, x, h => by simp at h
  | _, _, .cons hv t, 0, x, h => by simp at h; subst h; exact ⟨_, rfl, hv⟩
  | _, _, .cons hv t, i + 1, x, h => by simp at h; simpa using VRs.get t i x h
theorem VRs.append {ρ : Emb} : ∀ {a b : List AV} {u v : List Value}, VRs ρ a u → VRs ρ b v → VRs ρ (a ++ b) (u ++ v)
  | _, _, _, _, .nil, h => h
  | _, _, _, _, .cons x t, h => .cons x (VRs.append t h)
theorem VRs.take {ρ : Emb} : ∀ {a : List AV} {u : List Value}, VRs ρ a u → ∀ n, VRs ρ (a.take n) (u.take n)
  | _, _, .nil, n => by simp; exact .nil
  | _, _, .cons x t, 0 => by simp; exact .nil
  | _, _, .cons x t, n + 1 => by simp; exact .cons x (VRs.take t n)
theorem VRs.drop {ρ : Emb} : ∀ {a : List AV} {u : List Value}, VRs ρ a u → ∀ n, VRs ρ (a.drop n) (u.drop n)
  | _, _, .nil, n => by simp; exact .nil
  | _, _, .cons x t, 0 => by simp; exact .cons x t
  | _, _, .cons x t, n + 1 => by simp; exact VRs.drop t n
theorem VRs.set {ρ : Emb} : ∀ {a : List AV} {u : List Value}, VRs ρ a u → ∀ (n : Nat) {x : AV} {y : Value}, VR ρ x y → VRs ρ (a.set n x) (u.set n y)
  | _, _, .nil, n, _, _, _ => by simp; exact .nil
  | _, _, .cons _ t, 0, _, _, h => by simp; exact .cons h t
  | _, _, .cons x t, n + 1, _, _, h => by simp; exact .cons x (VRs.set t n h)
/-- Out of places. -/
theorem VRs.of_get {ρ : Emb} : ∀ (a : List AV) (v : List Value), a.length = v.length → (∀ (i : Nat) (x : AV), a[i]? = some x → ∃ y, v[i]? = some y ∧ VR ρ x y) → VRs ρ a v
  | [], [], _, _ => .nil
  | [], _ :: _, h, _ => by simp at h
  | _ :: _, [], h, _ => by simp at h
  | x :: as, y :: vs, h, hg => by
    obtain ⟨z, hz, hr⟩ := hg 0 x rfl
    simp at hz; subst hz
    exact .cons hr (VRs.of_get as vs (by simpa using h) fun i u hu => by simpa using hg (i + 1) u (by simpa using hu))

/-! ### 3. Values without addresses stand for themselves -/
mutual
def AV.val : AV → Option Value
  | .bool b => some (.bool b)
  | .int k n => some (.int k n)
  | .str s => some (.string s)
  | .nilp => some (.pointer none)
  | .nils => some (.slice none 0 0)
  | .nilm => some (.map none)
  | .nilf => some .nilFunc
  | .agg cs => match AV.vals cs with | some vs => some (.agg vs.toArray) | none => none
  | _ => none
def AV.vals : List AV → Option (List Value)
  | [] => some []
  | a :: as => match a.val, AV.vals as with | some v, some vs => some (v :: vs) | _, _ => none
end

mutual
theorem AV.val_rel {ρ : Emb} : ∀ {a : AV} {x : Value}, VR ρ a x → ∀ v, a.val = some v → x = v
  | _, _, .bool b, v, h => by simpa [AV.val] using h
  | _, _, .int k n, v, h => by simpa [AV.val] using h
  | _, _, .str s, v, h => by simpa [AV.val] using h
  | _, _, .nilp, v, h => by simpa [AV.val] using h
  | _, _, .nils, v, h => by simpa [AV.val] using h
  | _, _, .nilm, v, h => by simpa [AV.val] using h
  | _, _, .nilf, v, h => by simpa [AV.val] using h
  | _, _, .agg (cs := cs) hr, v, h => by
    rw [AV.val] at h
    cases hc : AV.vals cs with
    | none => simp [hc] at h
    | some vs =>
      simp [hc] at h
      rw [← h, AV.vals_rel hr _ hc]
  | _, _, .any _, v, h => by simp [AV.val] at h
  | _, _, .ptr _ _, v, h => by simp [AV.val] at h
  | _, _, .slice _ _ _ _ _ _ _, v, h => by simp [AV.val] at h
  | _, _, .slice0 _, v, h => by simp [AV.val] at h
  | _, _, .map _, v, h => by simp [AV.val] at h
  | _, _, .func _ _ _, v, h => by simp [AV.val] at h
  | _, _, .yield _, v, h => by simp [AV.val] at h
  | _, _, .tuple _, v, h => by simp [AV.val] at h
theorem AV.vals_rel {ρ : Emb} : ∀ {a : List AV} {x : List Value}, VRs ρ a x → ∀ v, AV.vals a = some v → x = v
  | _, _, .nil, v, h => by simpa [AV.vals] using h
  | _, _, .cons (a := a) (as := as) hr ht, v, h => by
    rw [AV.vals] at h
    cases ha : a.val with
    | none => simp [ha] at h
    | some u =>
      cases hs : AV.vals as with
      | none => simp [ha, hs] at h
      | some vs =>
        simp [ha, hs] at h
        rw [← h, AV.val_rel hr _ ha, AV.vals_rel ht _ hs]
end

/-- A value of one cell without an address. -/
def ofVal1 : Value → AV
  | .bool b => .bool b
  | .int k n => .int k n
  | .string s => .str s
  | .pointer none => .nilp
  | .slice none 0 0 => .nils
  | .map none => .nilm
  | .nilFunc => .nilf
  | .func (.func f) ⟨[]⟩ ⟨[]⟩ => .func (.func f) [] []
  | _ => .any
def ofVal : Value → AV
  | .agg cs => .agg (cs.toList.map ofVal1)
  | .tuple cs => .tuple (cs.toList.map ofVal1)
  | v => ofVal1 v
theorem ofVal1_rel (ρ : Emb) (v : Value) : VR ρ (ofVal1 v) v := by
  unfold ofVal1
  split <;> first | exact .any _ | constructor
  all_goals exact .nil
theorem ofVals_rel (ρ : Emb) : ∀ l : List Value, VRs ρ (l.map ofVal1) l
  | [] => .nil
  | v :: l => .cons (ofVal1_rel ρ v) (ofVals_rel ρ l)
theorem ofVal_rel (ρ : Emb) (v : Value) : VR ρ (ofVal v) v := by
  unfold ofVal
  split
  · rename_i cs; exact .agg (vs := cs.toList) (ofVals_rel ρ _)
  · rename_i cs; exact .tuple (vs := cs.toList) (ofVals_rel ρ _)
  · exact ofVal1_rel ρ v
end Go.Rx
