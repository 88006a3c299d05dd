import Derived.Test.YtpbcjdeldhhcpaaGreatDoorRx18
set_option linter.unusedVariables false
set_option linter.unusedSimpArgs false
set_option linter.unusedSectionVars false
noncomputable section
namespace Go.Rx
open Go

/-! ### S1. States under other names: renaming, freezing, forgetting -/
mutual
/-- No name stands in it. -/
def AV.free : AV → Bool
  | .any => true
  | .bool _ => true
  | .int _ _ => true
  | .str _ => true
  | .ptr _ _ => false
  | .nilp => true
  | .slice _ _ _ _ => false
  | .nils => true
  | .map _ => false
  | .nilm => true
  | .func _ a b => AV.frees a && AV.frees b
  | .yield _ => false
  | .nilf => true
  | .agg cs => AV.frees cs
  | .tuple vs => AV.frees vs
  | .view vals _ _ _ => AV.frees vals
  | .vptr vals _ => AV.frees vals
def AV.frees : List AV → Bool
  | [] => true
  | a :: as => a.free && AV.frees as
end
theorem AV.frees_iff : ∀ {l : List AV}, AV.frees l = true ↔ ∀ a ∈ l, a.free = true
  | [] => by simp [AV.frees]
  | a :: l => by simp [AV.frees, AV.frees_iff (l := l)]
theorem AV.frees_append {l m : List AV} : AV.frees (l ++ m) = (AV.frees l && AV.frees m) := by
  rw [Bool.eq_iff_iff]; simp only [AV.frees_iff, Bool.and_eq_true, List.mem_append]
  exact ⟨fun h => ⟨fun a ha => h a (.inl ha), fun a ha => h a (.inr ha)⟩, fun ⟨h1, h2⟩ a ha => ha.elim (h1 a) (h2 a)⟩

mutual
theorem VR.free {ρ ρ' : Emb} (hfz : ∀ b o, ρ.fz b = some o → ρ'.fz b = some o) : ∀ {a : AV} {v : Value}, VR ρ a v → a.free = true → VR ρ' a v
  | _, _, .any v, _ => .any v
  | _, _, .bool b, _ => .bool b
  | _, _, .int k n, _ => .int k n
  | _, _, .str s, _ => .str s
  | _, _, .ptr off h, hf => by simp [AV.free] at hf
  | _, _, .nilp, _ => .nilp
  | _, _, .slice off len cap esz h hl hb, hf => by simp [AV.free] at hf
  | _, _, .slice0 a, hf => by simp [AV.free] at hf
  | _, _, .nils, _ => .nils
  | _, _, .map h, hf => by simp [AV.free] at hf
  | _, _, .nilm, _ => .nilm
  | _, _, .func fn hf' hc, hf => by
    simp only [AV.free, Bool.and_eq_true] at hf
    exact .func fn (VRs.free hfz hf' hf.1) (VRs.free hfz hc hf.2)
  | _, _, .yield h, hf => by simp [AV.free] at hf
  | _, _, .nilf, _ => .nilf
  | _, _, .agg h, hf => .agg (VRs.free hfz h (by simpa [AV.free] using hf))
  | _, _, .tuple h, hf => .tuple (VRs.free hfz h (by simpa [AV.free] using hf))
  | _, _, .view off len cap esz hz hx h hl hb, hf => .view off len cap esz (hfz _ _ hz) hx (VRs.free hfz h (by simpa [AV.free] using hf)) hl hb
  | _, _, .view0 a, _ => .view0 a
  | _, _, .viewN, _ => .viewN
  | _, _, .vptr off hz hx h, hf => .vptr off (hfz _ _ hz) hx (VRs.free hfz h (by simpa [AV.free] using hf))
theorem VRs.free {ρ ρ' : Emb} (hfz : ∀ b o, ρ.fz b = some o → ρ'.fz b = some o) : ∀ {a : List AV} {v : List Value}, VRs ρ a v → AV.frees a = true → VRs ρ' a v
  | _, _, .nil, _ => .nil
  | _, _, .cons h t, hf => by
    simp only [AV.frees, Bool.and_eq_true] at hf
    exact .cons (VR.free hfz h hf.1) (VRs.free hfz t hf.2)
end

mutual
/-- What a value of the state ahead is called in the state behind: g tells what the names behind were; what is in F is frozen. -/
inductive CV (g : Nat → Nat) (F : Nat → Prop) (h : Hp) : AV → AV → Prop
  | any (v : AV) : CV g F h v .any
  | free {v : AV} (hv : v.free = true) : CV g F h v v
  | ptr (j off : Nat) : CV g F h (.ptr (g j) off) (.ptr j off)
  | slice (j off len esz : Nat) : CV g F h (.slice (g j) off len esz) (.slice j off len esz)
  | map (j : Nat) : CV g F h (.map (g j)) (.map j)
  | yield (j : Nat) : CV g F h (.yield (g j)) (.yield j)
  | func {a a' b b' : List AV} (fn : Fn) (ha : CVs g F h a a') (hb : CVs g F h b b') : CV g F h (.func fn a b) (.func fn a' b')
  | agg {a a' : List AV} (ha : CVs g F h a a') : CV g F h (.agg a) (.agg a')
  | tuple {a a' : List AV} (ha : CVs g F h a a') : CV g F h (.tuple a) (.tuple a')
  | frS {id : Nat} {vals vals' : List AV} (off len esz : Nat) (hF : F id) (hid : h id = some (.cells vals true)) (hv : CVs g F h vals vals') : CV g F h (.slice id off len esz) (.view vals' off len esz)
  | frP {id : Nat} {vals vals' : List AV} (off : Nat) (hF : F id) (hid : h id = some (.cells vals true)) (hv : CVs g F h vals vals') : CV g F h (.ptr id off) (.vptr vals' off)
  | view {vals vals' : List AV} (off len esz : Nat) (hv : CVs g F h vals vals') : CV g F h (.view vals off len esz) (.view vals' off len esz)
  | vptr {vals vals' : List AV} (off : Nat) (hv : CVs g F h vals vals') : CV g F h (.vptr vals off) (.vptr vals' off)
  | nils (vals : List AV) (off esz : Nat) : CV g F h .nils (.view vals off 0 esz)
inductive CVs (g : Nat → Nat) (F : Nat → Prop) (h : Hp) : List AV → List AV → Prop
  | nil : CVs g F h [] []
  | cons {a a' : AV} {as as' : List AV} (ha : CV g F h a a') (t : CVs g F h as as') : CVs g F h (a :: as) (a' :: as')
end
theorem CVs.free {g : Nat → Nat} {F : Nat → Prop} {h : Hp} : ∀ {l : List AV}, AV.frees l = true → CVs g F h l l
  | [], _ => .nil
  | a :: l, hf => by
    simp only [AV.frees, Bool.and_eq_true] at hf
    exact .cons (.free hf.1) (CVs.free hf.2)
mutual
theorem CV.refl (F : Nat → Prop) (h : Hp) : ∀ v, CV (fun j => j) F h v v
  | .any => .free rfl
  | .bool _ => .free rfl
  | .int _ _ => .free rfl
  | .str _ => .free rfl
  | .ptr i o => .ptr (g := fun j => j) i o
  | .nilp => .free rfl
  | .slice i o l e => .slice (g := fun j => j) i o l e
  | .nils => .free rfl
  | .map i => .map (g := fun j => j) i
  | .nilm => .free rfl
  | .func f a b => .func f (CVs.refl F h a) (CVs.refl F h b)
  | .yield i => .yield (g := fun j => j) i
  | .nilf => .free rfl
  | .agg a => .agg (CVs.refl F h a)
  | .tuple a => .tuple (CVs.refl F h a)
  | .view vals o l e => .view o l e (CVs.refl F h vals)
  | .vptr vals o => .vptr o (CVs.refl F h vals)
theorem CVs.refl (F : Nat → Prop) (h : Hp) : ∀ l, CVs (fun j => j) F h l l
  | [] => .nil
  | a :: l => .cons (CV.refl F h a) (CVs.refl F h l)
end
theorem CVs.append {g : Nat → Nat} {F : Nat → Prop} {h : Hp} : ∀ {a b c d : List AV}, CVs g F h a c → CVs g F h b d → CVs g F h (a ++ b) (c ++ d)
  | _, _, _, _, .nil, k => k
  | _, _, _, _, .cons x t, k => .cons x (CVs.append t k)

open Classical in
/-- The frozen blocks, with those of F. -/
def fzOf (ρ : Emb) (F : Nat → Prop) (h : Hp) (w : World) : Nat → Option Obj := fun b =>
  match ρ.fz b with
  | some o => some o
  | none => if ∃ id vals e, F id ∧ h id = some (.cells vals true) ∧ ρ id = some e ∧ e.blk = b then w.heap[b]? else none
theorem fzOf_old {ρ : Emb} {F : Nat → Prop} {h : Hp} {w : World} {b : Nat} {o : Obj} (hb : ρ.fz b = some o) : fzOf ρ F h w b = some o := by unfold fzOf; rw [hb]
theorem fzOf_new {ρ : Emb} {F : Nat → Prop} {h : Hp} {w : World} {N0 : Nat} (s : Sim N0 ρ h w) {id : Nat} {vals : List AV} {e : E} (hF : F id) (hid : h id = some (.cells vals true)) (he : ρ id = some e) {o : Obj} (ho : w.heap[e.blk]? = some o) :
    fzOf ρ F h w e.blk = some o := by
  unfold fzOf
  cases hz : ρ.fz e.blk with
  | some o' => exact absurd ⟨id, _, e, hid, rfl, he, rfl⟩ (s.fz _ _ hz).2
  | none => simp only; rw [if_pos ⟨id, vals, e, hF, hid, he, rfl⟩]; exact ho
theorem fzOf_spec {ρ : Emb} {F : Nat → Prop} {h : Hp} {w : World} {b : Nat} {o : Obj} (hb : fzOf ρ F h w b = some o) : ρ.fz b = some o ∨ (w.heap[b]? = some o ∧ ∃ id vals e, F id ∧ h id = some (.cells vals true) ∧ ρ id = some e ∧ e.blk = b) := by
  unfold fzOf at hb
  cases hz : ρ.fz b with
  | some o' => rw [hz] at hb; simp only [Option.some.injEq] at hb; subst hb; exact .inl rfl
  | none =>
    rw [hz] at hb; simp only at hb
    split at hb
    · rename_i hc; exact .inr ⟨hb, hc⟩
    · cases hb

/-- The values that stand in the world behind told cells. -/
theorem cells_vrs {ρ : Emb} {c : Array Value} {base : Nat} : ∀ {vals : List AV} (k : Nat), (∀ (j : Nat) (v : AV), vals[j]? = some v → ∃ x, c[base + (k + j)]? = some x ∧ VR ρ v x) → ∃ xs : List Value, VRs ρ vals xs ∧ ∀ (j : Nat) (x : Value), xs[j]? = some x → c[base + (k + j)]? = some x
  | [], k, _ => ⟨[], .nil, fun j x h => by simp at h⟩
  | v :: vals, k, h => by
    obtain ⟨x, hx, hr⟩ := h 0 v rfl
    obtain ⟨xs, h1, h2⟩ := cells_vrs (vals := vals) (k + 1) fun j u hu => by
      have := h (j + 1) u (by simpa using hu)
      rwa [show k + (j + 1) = k + 1 + j by omega] at this
    refine ⟨x :: xs, .cons hr h1, fun j y hy => ?_⟩
    cases j with
    | zero => simp only [List.getElem?_cons_zero, Option.some.injEq] at hy; subst hy; exact hx
    | succ j => have := h2 j y (by simpa using hy); rwa [show k + 1 + j = k + (j + 1) by omega] at this

theorem cells_vrs0 {ρ : Emb} {c : Array Value} {base : Nat} {vals : List AV} (h : ∀ (j : Nat) (v : AV), vals[j]? = some v → ∃ x, c[base + j]? = some x ∧ VR ρ v x) : ∃ xs : List Value, VRs ρ vals xs ∧ ∀ (j : Nat) (x : Value), xs[j]? = some x → c[base + j]? = some x := by
  obtain ⟨xs, h1, h2⟩ := cells_vrs (c := c) (base := base) (ρ := ρ) (vals := vals) 0 (fun j v hv => by rw [show base + (0 + j) = base + j by omega]; exact h j v hv)
  exact ⟨xs, h1, fun j x hx => by have := h2 j x hx; rwa [show base + (0 + j) = base + j by omega] at this⟩

section
variable {g : Nat → Nat} {F : Nat → Prop} {h : Hp} {ρ : Emb} {w : World} {N0 : Nat} (s : Sim N0 ρ h w) (f2 : Nat → Option E) (hf2 : ∀ j e, ρ (g j) = some e → f2 j = some e)
include s hf2
mutual
theorem CV.vr : ∀ {v v2 : AV}, CV g F h v v2 → ∀ {x : Value}, VR ρ v x → VR ⟨f2, fzOf ρ F h w⟩ v2 x
  | _, _, .any v, x, _ => .any x
  | _, _, .free hv, x, hx => VR.free (fun b o hb => fzOf_old hb) hx hv
  | _, _, .ptr j off, _, .ptr _ hid => .ptr off (hf2 _ _ hid)
  | _, _, .slice j off len esz, x, hx => by
    cases hx with
    | slice _ _ cap _ hid hl hb => exact .slice off len cap esz (hf2 _ _ hid) hl hb
    | slice0 a => exact .slice0 a
  | _, _, .map j, _, .map hid => .map (hf2 _ _ hid)
  | _, _, .yield j, _, .yield hid => .yield (hf2 _ _ hid)
  | _, _, .func fn ha hb, _, .func _ h1 h2 => .func fn (CVs.vr ha h1) (CVs.vr hb h2)
  | _, _, .agg ha, _, .agg h1 => .agg (CVs.vr ha h1)
  | _, _, .tuple ha, _, .tuple h1 => .tuple (CVs.vr ha h1)
  | _, _, .frS off len esz hF hid hv, x, hx => by
    cases hx with
    | slice _ _ cap _ he hl hb =>
      obtain ⟨e', he', c, et, fr, hc, hsz, _, _, hcell⟩ := s.obj _ _ hid
      rw [he] at he'; cases he'
      obtain ⟨xs, k1, k2⟩ := cells_vrs0 hcell
      exact .view off len cap esz (fzOf_new s hF hid he hc) k2 (CVs.vr hv k1) hl (by rw [hsz]; exact hb)
    | slice0 a => exact .view0 a
  | _, _, .frP off hF hid hv, _, .ptr _ he => by
    obtain ⟨e', he', c, et, fr, hc, hsz, _, _, hcell⟩ := s.obj _ _ hid
    rw [he] at he'; cases he'
    obtain ⟨xs, k1, k2⟩ := cells_vrs0 hcell
    exact .vptr off (fzOf_new s hF hid he hc) k2 (CVs.vr hv k1)
  | _, _, .nils vals off esz, _, .nils => .viewN
  | _, _, .view off len esz hv, x, hx => by
    cases hx with
    | view _ _ cap _ hz hx' h1 hl hb => exact .view off len cap esz (fzOf_old hz) hx' (CVs.vr hv h1) hl hb
    | view0 a => exact .view0 a
    | viewN => exact .viewN
  | _, _, .vptr off hv, _, .vptr _ hz hx h1 => .vptr off (fzOf_old hz) hx (CVs.vr hv h1)
theorem CVs.vr : ∀ {v v2 : List AV}, CVs g F h v v2 → ∀ {x : List Value}, VRs ρ v x → VRs ⟨f2, fzOf ρ F h w⟩ v2 x
  | _, _, .nil, _, .nil => .nil
  | _, _, .cons ha t, _, .cons h1 t1 => .cons (CV.vr ha h1) (CVs.vr t t1)
end
end


inductive CE (g : Nat → Nat) (F : Nat → Prop) (h : Hp) : List (AV × AV × Nat) → List (AV × AV × Nat) → Prop
  | nil : CE g F h [] []
  | cons {k k' v v' : AV} {b : Nat} {es es' : List (AV × AV × Nat)} (hk : CV g F h k k') (hv : CV g F h v v') (t : CE g F h es es') : CE g F h ((k, v, b) :: es) ((k', v', b) :: es')
inductive CO (g : Nat → Nat) (F : Nat → Prop) (h : Hp) : AO → AO → Prop
  | cells {a b : List AV} (own : Bool) (hv : CVs g F h a b) : CO g F h (.cells a own) (.cells b own)
  | map {a b : List (AV × AV × Nat)} (clk : Nat) (hv : CE g F h a b) : CO g F h (.map a clk) (.map b clk)
  | siter (s : ByteArray) (p : Nat) : CO g F h (.siter s p) (.siter s p)
  | loop {tm tm' : T AV} (st : LoopState) (pd : Option Code) (fn : FuncId) (nt : Nat) (ps : List Tmp) (asg body : Code) (d : Nat) (ht : ∀ i v', tm'.get i = some v' → ∃ v, tm.get i = some v ∧ CV g F h v v') :
    CO g F h (.loop st pd fn tm nt ps asg body (g d)) (.loop st pd fn tm' nt ps asg body d)
  | defs : CO g F h .defs .defs
theorem CE.refl (F : Nat → Prop) (h : Hp) : ∀ l, CE (fun j => j) F h l l
  | [] => .nil
  | (k, v, b) :: l => .cons (CV.refl F h k) (CV.refl F h v) (CE.refl F h l)
theorem CO.refl (F : Nat → Prop) (h : Hp) : ∀ o, CO (fun j => j) F h o o
  | .cells a own => .cells own (CVs.refl F h a)
  | .map a clk => .map clk (CE.refl F h a)
  | .siter s p => .siter s p
  | .loop st pd fn tm nt ps asg body d => .loop (g := fun j => j) st pd fn nt ps asg body d fun i v hv => ⟨v, hv, CV.refl F h v⟩
  | .defs => .defs
theorem CO.own {g : Nat → Nat} {F : Nat → Prop} {h : Hp} {a b : AO} (c : CO g F h a b) : a.own = b.own := by cases c <;> rfl

section
variable {g : Nat → Nat} {F : Nat → Prop} {h : Hp} {ρ : Emb} {w : World} {N0 : Nat} (s : Sim N0 ρ h w) (f2 : Nat → Option E) (hf2 : ∀ j e, ρ (g j) = some e → f2 j = some e)
include s hf2
theorem CE.mr : ∀ {a b : List (AV × AV × Nat)}, CE g F h a b → ∀ {x : List MapEntry}, MR ρ a x → MR ⟨f2, fzOf ρ F h w⟩ b x
  | _, _, .nil, _, .nil => .nil
  | _, _, .cons hk hv t, _, .cons h1 h2 h3 t1 => .cons (CV.vr s f2 hf2 hk h1) (CV.vr s f2 hf2 hv h2) h3 (CE.mr t t1)
theorem CO.or {a b : AO} (c : CO g F h a b) {e : E} (ho : OR N0 ρ w e a) : OR N0 ⟨f2, fzOf ρ F h w⟩ w e b := by
  cases c with
  | cells own hv =>
    obtain ⟨c, et, fr, hc, h1, h2, h3, h4⟩ := ho
    obtain ⟨xs, k1, k2⟩ := cells_vrs0 h4
    have k3 := CVs.vr s f2 hf2 hv k1
    exact ⟨c, et, fr, hc, h1, h2, h3, fun j v hv' => by
      obtain ⟨y, hy, hr⟩ := k3.get j v hv'
      exact ⟨y, k2 j y hy, hr⟩⟩
  | map clk hv => obtain ⟨fs, hc, h1, h2⟩ := ho; exact ⟨fs, hc, h1, CE.mr s f2 hf2 hv h2⟩
  | siter st p => exact ho
  | loop st pd fn nt ps asg body d ht =>
    obtain ⟨ts, ed, fn', h1, h2, hc, h3⟩ := ho
    exact ⟨ts, ed, fn', ⟨h1.1, fun i v' hv' => by
      obtain ⟨v, k1, k2⟩ := ht i v' hv'
      exact CV.vr s f2 hf2 k2 (h1.2 i v k1)⟩, hf2 _ _ h2, hc, h3⟩
  | defs => exact ho
end

/-! ### S2. What stays as it is -/
structure RP (pin N0 : Nat) (ρ : Emb) (h : Hp) (w : World) (ρ' : Emb) (h' : Hp) (w' : World) : Prop where
  ext : ∀ id e, id < pin → ρ id = some e → ρ' id = some e
  fz : ∀ b o, ρ.fz b = some o → ρ'.fz b = some o
  sim : Sim N0 ρ' h' w'
  os : w'.os = w.os
  tape : w'.tape = w.tape
  output : w'.output = w.output
  size : w.heap.size ≤ w'.heap.size
  keep : ∀ b, b < w.heap.size → ¬ owned ρ h b → w'.heap[b]? = w.heap[b]?
  foot : ∀ b, owned ρ' h' b → owned ρ h b ∨ w.heap.size ≤ b
  fzn : ∀ b o, ρ'.fz b = some o → ρ.fz b = some o ∨ owned ρ h b ∨ w.heap.size ≤ b
theorem Post.rp {pin N0 : Nat} {ρ ρ' : Emb} {h h' : Hp} {nx nx' : Nat} {w w' : World} (p : Post N0 ρ h nx w ρ' h' nx' w') : RP pin N0 ρ h w ρ' h' w' :=
  ⟨fun id e _ => p.ext.id id e, p.ext.fz, p.sim, p.os, p.tape, p.output, p.size, p.keep, p.foot, p.fzn⟩
theorem RP.refl {pin N0 : Nat} {ρ : Emb} {h : Hp} {w : World} (s : Sim N0 ρ h w) : RP pin N0 ρ h w ρ h w := (Post.refl (nx := 0) s).rp
theorem RP.trans {pin N0 : Nat} {ρ ρ' ρ'' : Emb} {h h' h'' : Hp} {w w' w'' : World} (p : RP pin N0 ρ h w ρ' h' w') (q : RP pin N0 ρ' h' w' ρ'' h'' w'') : RP pin N0 ρ h w ρ'' h'' w'' where
  ext id e hi he := q.ext id e hi (p.ext id e hi he)
  fz b o hb := q.fz b o (p.fz b o hb)
  sim := q.sim
  os := q.os.trans p.os
  tape := q.tape.trans p.tape
  output := q.output.trans p.output
  size := Nat.le_trans p.size q.size
  keep b hb hn := by
    have h1 := p.keep b hb hn
    have h2 : ¬ owned ρ' h' b := fun ho => by
      rcases p.foot b ho with h | h
      · exact hn h
      · omega
    exact (q.keep b (Nat.lt_of_lt_of_le hb p.size) h2).trans h1
  foot b hb := by
    rcases q.foot b hb with h1 | h1
    · exact p.foot b h1
    · exact .inr (Nat.le_trans p.size h1)
  fzn b o hb := by
    rcases q.fzn b o hb with h1 | h1 | h1
    · exact p.fzn b o h1
    · exact .inr (p.foot b h1)
    · exact .inr (.inr (Nat.le_trans p.size h1))

/-- A state under other names, with blocks frozen, and with less told. -/
structure Ren (pin : Nat) (rd : Option Nat) (s s2 : St) (g : Nat → Nat) (F : Nat → Prop) : Prop where
  nt : s2.nt = s.nt
  df : s2.df = s.df
  gdf : ∀ d ∈ s.df, g d = d
  fresh : ∀ j, s2.h.nx ≤ j → s.h.nx ≤ g j
  pin : ∀ j, j < pin → g j = j
  rd : ∀ r, rd = some r → g r = r
  inj : ∀ i j oi oj, s2.h.get i = some oi → s2.h.get j = some oj → g i = g j → i = j
  tm : ∀ i v2, s2.tm.get i = some v2 → ∃ v, s.tm.get i = some v ∧ CV g F s.h.get v v2
  hp : ∀ j o2, s2.h.get j = some o2 → ∃ o, s.h.get (g j) = some o ∧ ¬ F (g j) ∧ CO g F s.h.get o o2

theorem Ren.sim {pin : Nat} {rd : Option Nat} {s s2 : St} {g : Nat → Nat} {F : Nat → Prop} (r : Ren pin rd s s2 g F) {N0 : Nat} {ρ : Emb} {w : World} (sim : Sim N0 ρ s.h.get w) :
    Sim N0 ⟨fun j => ρ (g j), fzOf ρ F s.h.get w⟩ s2.h.get w := by
  have hown : ∀ b, owned ⟨fun j => ρ (g j), fzOf ρ F s.h.get w⟩ s2.h.get b → ∃ j o e, s.h.get (g j) = some o ∧ o.own = true ∧ ρ (g j) = some e ∧ e.blk = b ∧ ¬ F (g j) := fun b ⟨j, o2, e, h1, h2, h3, h4⟩ => by
    obtain ⟨o, k1, k2, k3⟩ := r.hp j o2 h1
    exact ⟨j, o, e, k1, by rw [k3.own]; exact h2, h3, h4, k2⟩
  refine ⟨sim.base, fun j o2 hj => ?_, fun i j oi oj ei ej hi hj h1 h2 h3 h4 h5 => ?_, fun b o hb => ?_⟩
  · obtain ⟨o, k1, k2, k3⟩ := r.hp j o2 hj
    obtain ⟨e, he, ho⟩ := sim.obj _ _ k1
    exact ⟨e, he, CO.or sim (fun j => ρ (g j)) (fun _ _ h => h) k3 ho⟩
  · obtain ⟨o, k1, k2, k3⟩ := r.hp i oi hi
    obtain ⟨o', l1, l2, l3⟩ := r.hp j oj hj
    exact r.inj i j oi oj hi hj (sim.inj _ _ _ _ _ _ k1 l1 (by rw [k3.own]; exact h1) (by rw [l3.own]; exact h2) h3 h4 h5)
  · rcases fzOf_spec hb with h1 | ⟨h1, id, vals, e, h2, h3, h4, h5⟩
    · refine ⟨(sim.fz b o h1).1, fun ho => (sim.fz b o h1).2 ?_⟩
      obtain ⟨j, o', e, k1, k2, k3, k4, _⟩ := hown b ho
      exact ⟨_, o', e, k1, k2, k3, k4⟩
    · refine ⟨h1, fun ho => ?_⟩
      obtain ⟨j, o', e', k1, k2, k3, k4, k5⟩ := hown b ho
      have := sim.inj (g j) id o' _ e' e k1 h3 k2 rfl k3 h4 (by omega)
      exact k5 (by rw [this]; exact h2)
theorem Ren.rp {pin : Nat} {rd : Option Nat} {s s2 : St} {g : Nat → Nat} {F : Nat → Prop} (r : Ren pin rd s s2 g F) {N0 : Nat} {ρ : Emb} {w : World} (sim : Sim N0 ρ s.h.get w) :
    RP pin N0 ρ s.h.get w ⟨fun j => ρ (g j), fzOf ρ F s.h.get w⟩ s2.h.get w where
  ext id e hi he := by show ρ (g id) = some e; rw [r.pin id hi]; exact he
  fz b o hb := fzOf_old hb
  sim := r.sim sim
  os := rfl
  tape := rfl
  output := rfl
  size := Nat.le_refl _
  keep _ _ _ := rfl
  foot b hb := by
    obtain ⟨j, o2, e, h1, h2, h3, h4⟩ := hb
    obtain ⟨o, k1, k2, k3⟩ := r.hp j o2 h1
    exact .inl ⟨g j, o, e, k1, by rw [k3.own]; exact h2, h3, h4⟩
  fzn b o hb := by
    rcases fzOf_spec hb with h1 | ⟨h1, id, vals, e, h2, h3, h4, h5⟩
    · exact .inl h1
    · exact .inr (.inl ⟨id, _, e, h3, rfl, h4, h5⟩)
end Go.Rx
