import Derived.Test.YtpbcjdeldhhcpaaGreatDoorRx1
set_option linter.unusedVariables false
set_option linter.unusedSimpArgs false
set_option linter.unusedSectionVars false
noncomputable section
namespace Go.Rx
open Go

/-! ### 4. Abstract objects, and how a world bears them -/
inductive AO where
  | cells (vals : List AV) (own : Bool)
  | map (es : List (AV × AV × Nat)) (clock : Nat)
  | siter (s : ByteArray) (pos : Nat)
  | loop (state : LoopState) (pending : Option Code) (fn : FuncId) (tm : T AV) (nt : Nat) (params : List Tmp) (assign body : Code) (defers : Nat)
  | defs
def AO.own : AO → Bool
  | .cells _ o => o
  | _ => true

inductive MR (ρ : Emb) : List (AV × AV × Nat) → List MapEntry → Prop
  | nil : MR ρ [] []
  | cons {k v : AV} {b : Nat} {e : MapEntry} {es : List (AV × AV × Nat)} {fs : List MapEntry} (hk : VR ρ k e.key) (hv : VR ρ v e.val) (hb : e.born = b) (t : MR ρ es fs) : MR ρ ((k, v, b) :: es) (e :: fs)
theorem MR.mono {ρ ρ' : Emb} (hle : ρ.le ρ') : ∀ {a : List (AV × AV × Nat)} {v : List MapEntry}, MR ρ a v → MR ρ' a v
  | _, _, .nil => .nil
  | _, _, .cons hk hv hb t => .cons (hk.mono hle) (hv.mono hle) hb (MR.mono hle t)

def TR (ρ : Emb) (tm : T AV) (nt : Nat) (ts : Array Value) : Prop := ts.size = nt ∧ ∀ i v, tm.get i = some v → VR ρ v (ts.getD i undef)
theorem TR.mono {ρ ρ' : Emb} {tm : T AV} {nt : Nat} {ts : Array Value} (h : TR ρ tm nt ts) (hle : ρ.le ρ') : TR ρ' tm nt ts := ⟨h.1, fun i v hv => (h.2 i v hv).mono hle⟩

/-- The object o at the place e of the world. -/
def OR (N0 : Nat) (ρ : Emb) (w : World) (e : E) : AO → Prop
  | .cells vals own => ∃ c et fr, w.heap[e.blk]? = some (.cells c et fr) ∧ c.size = e.size ∧ (own = true → N0 ≤ e.blk ∧ fr = (0, 0)) ∧ (own = false → e.blk < N0) ∧ ∀ (j : Nat) (v : AV), vals[j]? = some v → ∃ x, c[e.base + j]? = some x ∧ VR ρ v x
  | .map es clk => ∃ fs, w.heap[e.blk]? = some (.map fs clk) ∧ N0 ≤ e.blk ∧ MR ρ es fs.toList
  | .siter s pos => w.heap[e.blk]? = some (.stringIter s pos) ∧ N0 ≤ e.blk ∧ e.base = 0
  | .loop st pend fn tm nt ps asg body dfs => ∃ ts ed fn', TR ρ tm nt ts ∧ ρ dfs = some ed ∧ w.heap[e.blk]? = some (.loop { state := st, pending := pend, fn := fn', tmps := ts, params := ps.toArray, assign := asg, body := body, defers := ed.blk }) ∧ N0 ≤ e.blk
  | .defs => w.heap[e.blk]? = some (.deferred (some [])) ∧ N0 ≤ e.blk

theorem OR.lt {N0 : Nat} {ρ : Emb} {w : World} {e : E} {o : AO} (h : OR N0 ρ w e o) : e.blk < w.heap.size := by
  have key : ∀ {x : Obj}, w.heap[e.blk]? = some x → e.blk < w.heap.size := fun hx => (Array.getElem?_eq_some_iff.1 hx).1
  cases o with
  | cells vals own => obtain ⟨c, et, fr, hc, _⟩ := h; exact key hc
  | map es clk => obtain ⟨fs, hc, _⟩ := h; exact key hc
  | siter s pos => exact key h.1
  | loop st pend fn tm nt ps asg body dfs => obtain ⟨ts, ed, _, _, _, hc, _⟩ := h; exact key hc
  | defs => exact key h.1
theorem OR.ge {N0 : Nat} {ρ : Emb} {w : World} {e : E} {o : AO} (h : OR N0 ρ w e o) (ho : o.own = true) : N0 ≤ e.blk := by
  cases o with
  | cells vals own => obtain ⟨c, et, fr, hc, _, h1, _⟩ := h; exact (h1 ho).1
  | map es clk => obtain ⟨fs, hc, h1, _⟩ := h; exact h1
  | siter s pos => exact h.2.1
  | loop st pend fn tm nt ps asg body dfs => obtain ⟨ts, ed, _, _, _, hc, h1⟩ := h; exact h1
  | defs => exact h.2
theorem OR.ro {N0 : Nat} {ρ : Emb} {w : World} {e : E} {o : AO} (h : OR N0 ρ w e o) (ho : o.own = false) : e.blk < N0 := by
  cases o with
  | cells vals own => obtain ⟨c, et, fr, hc, _, _, h1, _⟩ := h; exact h1 ho
  | _ => simp [AO.own] at ho
/-- An object lives on where its block is as it was. -/
theorem OR.same {N0 : Nat} {ρ ρ' : Emb} {w w' : World} {e : E} {o : AO} (h : OR N0 ρ w e o) (hle : ρ.le ρ') (hb : w'.heap[e.blk]? = w.heap[e.blk]?) : OR N0 ρ' w' e o := by
  cases o with
  | cells vals own =>
    obtain ⟨c, et, fr, hc, h1, h2, h3, h4⟩ := h
    exact ⟨c, et, fr, hb.trans hc, h1, h2, h3, fun j v hv => by
      obtain ⟨x, hx, hr⟩ := h4 j v hv
      exact ⟨x, hx, hr.mono hle⟩⟩
  | map es clk => obtain ⟨fs, hc, h1, h2⟩ := h; exact ⟨fs, hb.trans hc, h1, h2.mono hle⟩
  | siter s pos => exact ⟨hb.trans h.1, h.2⟩
  | loop st pend fn tm nt ps asg body dfs => obtain ⟨ts, ed, fn', h1, h2, hc, h3⟩ := h; exact ⟨ts, ed, fn', h1.mono hle, hle _ _ h2, hb.trans hc, h3⟩
  | defs => exact ⟨hb.trans h.1, h.2⟩

abbrev Hp := Nat → Option AO

def owned (ρ : Emb) (h : Hp) (b : Nat) : Prop := ∃ id o e, h id = some o ∧ o.own = true ∧ ρ id = some e ∧ e.blk = b
structure Sim (N0 : Nat) (ρ : Emb) (h : Hp) (w : World) : Prop where
  base : N0 ≤ w.heap.size
  obj : ∀ id o, h id = some o → ∃ e, ρ id = some e ∧ OR N0 ρ w e o
  inj : ∀ i j oi oj ei ej, h i = some oi → h j = some oj → oi.own = true → oj.own = true → ρ i = some ei → ρ j = some ej → ei.blk = ej.blk → i = j
  fz : ∀ b o, ρ.fz b = some o → w.heap[b]? = some o ∧ ¬ owned ρ h b

theorem Sim.sub {N0 : Nat} {ρ : Emb} {h h' : Hp} {w : World} (s : Sim N0 ρ h w) (hs : ∀ i o, h' i = some o → h i = some o) : Sim N0 ρ h' w :=
  ⟨s.base, fun id o ho => s.obj id o (hs id o ho), fun i j oi oj ei ej hi hj => s.inj i j oi oj ei ej (hs _ _ hi) (hs _ _ hj),
    fun b o hb => ⟨(s.fz b o hb).1, fun ⟨id, x, e, h1, h2⟩ => (s.fz b o hb).2 ⟨id, x, e, hs _ _ h1, h2⟩⟩⟩

/-- No name from a on is taken (b, up to where names are about to be taken, is told for the reader alone). -/
def Fresh (ρ : Emb) (a _b : Nat) : Prop := ∀ id, a ≤ id → ρ id = none

structure Post (N0 : Nat) (ρ : Emb) (h : Hp) (nx : Nat) (w : World) (ρ' : Emb) (h' : Hp) (nx' : Nat) (w' : World) : Prop where
  ext : ρ.le ρ'
  dom : ∀ id e, ρ' id = some e → ρ id = some e ∨ (nx ≤ id ∧ id < nx')
  sim : Sim N0 ρ' h' w'
  le : nx ≤ nx'
  os : w'.os = w.os
  tape : w'.tape = w.tape
  output : w'.output = w.output
  size : w.heap.size ≤ w'.heap.size
  keep : ∀ b, b < w.heap.size → ¬ owned ρ h b → w'.heap[b]? = w.heap[b]?
  foot : ∀ b, owned ρ' h' b → owned ρ h b ∨ w.heap.size ≤ b
  fzn : ∀ b o, ρ'.fz b = some o → ρ.fz b = some o ∨ owned ρ h b ∨ w.heap.size ≤ b

theorem Post.refl {N0 : Nat} {ρ : Emb} {h : Hp} {nx : Nat} {w : World} (s : Sim N0 ρ h w) : Post N0 ρ h nx w ρ h nx w :=
  ⟨Emb.le_refl _, fun _ _ h => .inl h, s, Nat.le_refl _, rfl, rfl, rfl, Nat.le_refl _, fun _ _ _ => rfl, fun _ h => .inl h, fun _ _ h => .inl h⟩
theorem Post.trans {N0 : Nat} {ρ ρ' ρ'' : Emb} {h h' h'' : Hp} {nx nx' nx'' : Nat} {w w' w'' : World} (p : Post N0 ρ h nx w ρ' h' nx' w') (q : Post N0 ρ' h' nx' w' ρ'' h'' nx'' w'') :
    Post N0 ρ h nx w ρ'' h'' nx'' w'' where
  ext := Emb.le_trans p.ext q.ext
  dom id e he := by
    rcases q.dom id e he with h1 | ⟨h1, h2⟩
    · rcases p.dom id e h1 with h3 | ⟨h3, h4⟩
      · exact .inl h3
      · exact .inr ⟨h3, Nat.lt_of_lt_of_le h4 q.le⟩
    · exact .inr ⟨Nat.le_trans p.le h1, h2⟩
  sim := q.sim
  le := Nat.le_trans p.le q.le
  os := q.os.trans p.os
  tape := q.tape.trans p.tape
  output := q.output.trans p.output
  size := Nat.le_trans p.size q.size
  keep b hb hn := by
    have h1 := p.keep b hb hn
    have h2 : ¬ owned ρ' h' b := fun ho => by
      rcases p.foot b ho with h | h
      · exact hn h
      · omega
    exact (q.keep b (Nat.lt_of_lt_of_le hb p.size) h2).trans h1
  foot b hb := by
    rcases q.foot b hb with h1 | h1
    · exact p.foot b h1
    · exact .inr (Nat.le_trans p.size h1)
  fzn b o hb := by
    rcases q.fzn b o hb with h1 | h1 | h1
    · exact p.fzn b o h1
    · exact .inr (p.foot b h1)
    · exact .inr (.inr (Nat.le_trans p.size h1))
theorem Post.fresh {N0 : Nat} {ρ ρ' : Emb} {h h' : Hp} {nx nx' m : Nat} {w w' : World} (p : Post N0 ρ h nx w ρ' h' nx' w') (hf : Fresh ρ nx m) : Fresh ρ' nx' m := fun id h1 => by
  cases hr : ρ' id with
  | none => rfl
  | some e =>
    rcases p.dom id e hr with h3 | ⟨_, h4⟩
    · rw [hf id (Nat.le_trans p.le h1)] at h3; cases h3
    · omega
/-- Fewer objects are told. -/
theorem Post.weaken {N0 : Nat} {ρ ρ' : Emb} {h h' h'' : Hp} {nx nx' nx'' : Nat} {w w' : World} (p : Post N0 ρ h nx w ρ' h' nx' w') (hs : ∀ i o, h'' i = some o → h' i = some o) (hn : nx' ≤ nx'') : Post N0 ρ h nx w ρ' h'' nx'' w' where
  ext := p.ext
  dom id e he := (p.dom id e he).imp (fun x => x) fun ⟨a, b⟩ => ⟨a, Nat.lt_of_lt_of_le b hn⟩
  sim := p.sim.sub hs
  le := Nat.le_trans p.le hn
  os := p.os
  tape := p.tape
  output := p.output
  size := p.size
  keep := p.keep
  fzn := p.fzn
  foot b hb := p.foot b (let ⟨id, o, e, h1, h2⟩ := hb; ⟨id, o, e, hs _ _ h1, h2⟩)
theorem Post.below {N0 : Nat} {ρ ρ' : Emb} {h h' : Hp} {nx nx' : Nat} {w w' : World} (s : Sim N0 ρ h w) (p : Post N0 ρ h nx w ρ' h' nx' w') : RowKit.Below N0 w w' :=
  ⟨p.os, p.tape, p.output, p.size, fun k hk => p.keep k (Nat.lt_of_lt_of_le hk s.base) (by
    rintro ⟨id, o, e, h1, h2, h3, h4⟩
    obtain ⟨e', he', ho⟩ := s.obj id o h1
    rw [h3] at he'; cases he'
    have := ho.ge h2
    omega)⟩

/-! ### 5. A world that only draws -/
theorem Post.drew {N0 : Nat} {ρ : Emb} {h : Hp} {nx : Nat} {w : World} (s : Sim N0 ρ h w) (d : Nat) : Post N0 ρ h nx w ρ h nx { w with drawn := d } :=
  ⟨Emb.le_refl _, fun _ _ h => .inl h, ⟨s.base, fun id o ho => by
    obtain ⟨e, he, hr⟩ := s.obj id o ho
    exact ⟨e, he, hr.same (Emb.le_refl _) rfl⟩, s.inj, s.fz⟩, Nat.le_refl _, rfl, rfl, rfl, Nat.le_refl _, fun _ _ _ => rfl, fun _ h => .inl h, fun _ _ h => .inl h⟩

/-! ### 6. A new object -/
def Emb.upd (ρ : Emb) (id : Nat) (e : E) : Emb := ⟨fun i => if i = id then some e else ρ i, ρ.fz⟩
def Hp.upd (h : Hp) (id : Nat) (o : AO) : Hp := fun i => if i = id then some o else h i
theorem Emb.le_upd {ρ : Emb} {id : Nat} (e : E) (hf : ρ id = none) : ρ.le (ρ.upd id e) := ⟨fun i e' h => by
  unfold Emb.upd
  simp only
  split
  · rename_i hi; subst hi; rw [hf] at h; cases h
  · exact h, fun _ _ h => h⟩
theorem Emb.upd_same (ρ : Emb) (id : Nat) (e : E) : ρ.upd id e id = some e := by simp [Emb.upd]

theorem Post.new {N0 : Nat} {ρ : Emb} {h : Hp} {w : World} (s : Sim N0 ρ h w) {id : Nat} (hf : ρ id = none) (e : E) (o : AO) (x : Obj) (he : e.blk = w.heap.size) (hown : o.own = true)
    (hr : OR N0 (ρ.upd id e) (w.alloc x) e o) : Post N0 ρ h id w (ρ.upd id e) (h.upd id o) (id + 1) (w.alloc x) where
  ext := Emb.le_upd e hf
  dom i e' h' := by
    unfold Emb.upd at h'
    simp only at h'
    split at h'
    · rename_i hi; exact .inr (by omega)
    · exact .inl h'
  sim := by
    refine ⟨by have := s.base; simp; omega, fun i o' hi => ?_, fun i j oi oj ei ej hi hj h1 h2 h3 h4 h5 => ?_, fun b ob hb => ?_⟩
    · unfold Hp.upd at hi
      split at hi
      · rename_i hii; subst hii
        cases hi
        exact ⟨e, Emb.upd_same _ _ _, hr⟩
      · rename_i hii
        obtain ⟨e', he', ho⟩ := s.obj i o' hi
        refine ⟨e', by simp [Emb.upd, hii, he'], ho.same (Emb.le_upd e hf) ?_⟩
        have := ho.lt
        exact RowKit.Below.heap_alloc w x _ this
    · have key : ∀ (k : Nat) (ok : AO) (ek : E), k ≠ id → h.upd id o k = some ok → ρ.upd id e k = some ek → ek.blk < w.heap.size := fun k ok ek hk h1 h2 => by
        simp only [Hp.upd, Emb.upd, if_neg hk] at h1 h2
        obtain ⟨e', he', ho⟩ := s.obj k ok h1
        rw [h2] at he'; cases he'
        exact ho.lt
      by_cases hi1 : i = id
      · by_cases hj1 : j = id
        · rw [hi1, hj1]
        · have hk := key j oj ej hj1 hj h4
          subst hi1
          rw [Emb.upd_same] at h3; cases h3
          omega
      · by_cases hj1 : j = id
        · have hk := key i oi ei hi1 hi h3
          subst hj1
          rw [Emb.upd_same] at h4; cases h4
          omega
        · simp only [Hp.upd, Emb.upd, if_neg hi1, if_neg hj1] at hi hj h3 h4
          exact s.inj i j oi oj ei ej hi hj h1 h2 h3 h4 h5
    · obtain ⟨k1, k2⟩ := s.fz b ob hb
      have hlt : b < w.heap.size := (Array.getElem?_eq_some_iff.1 k1).1
      refine ⟨(RowKit.Below.heap_alloc w x b hlt).trans k1, fun ⟨i, o', e', h1, h2, h3, h4⟩ => ?_⟩
      by_cases hi : i = id
      · subst hi; rw [Emb.upd_same] at h3; cases h3; omega
      · simp only [Hp.upd, Emb.upd, if_neg hi] at h1 h3
        exact k2 ⟨i, o', e', h1, h2, h3, h4⟩
  le := Nat.le_succ _
  os := rfl
  tape := rfl
  output := rfl
  size := by simp
  keep b hb _ := RowKit.Below.heap_alloc w x b hb
  fzn _ _ h := .inl h
  foot b hb := by
    obtain ⟨i, o', e', h1, h2, h3, h4⟩ := hb
    by_cases hi : i = id
    · subst hi; rw [Emb.upd_same] at h3; cases h3; exact .inr (by omega)
    · simp only [Hp.upd, Emb.upd, if_neg hi] at h1 h3
      exact .inl ⟨i, o', e', h1, h2, h3, h4⟩

/-! ### 7. An object that is written -/
theorem Post.write {N0 : Nat} {ρ : Emb} {h : Hp} {nx : Nat} {w w' : World} (s : Sim N0 ρ h w) {id : Nat} {e : E} {o o' : AO} (hid : h id = some o) (he : ρ id = some e) (ho : o.own = true) (ho' : o'.own = true)
    (hos : w'.os = w.os) (htape : w'.tape = w.tape) (hout : w'.output = w.output) (hsize : w'.heap.size = w.heap.size) (hkeep : ∀ b, b ≠ e.blk → w'.heap[b]? = w.heap[b]?)
    (hr : OR N0 ρ w' e o') : Post N0 ρ h nx w ρ (h.upd id o') nx w' where
  ext := Emb.le_refl _
  dom _ _ h := .inl h
  sim := by
    refine ⟨by rw [hsize]; exact s.base, fun i oi hi => ?_, fun i j oi oj ei ej hi hj h1 h2 h3 h4 h5 => ?_, fun b ob hb => ?_⟩
    · unfold Hp.upd at hi
      split at hi
      · rename_i hii; subst hii; cases hi; exact ⟨e, he, hr⟩
      · rename_i hii
        obtain ⟨e', he', hoi⟩ := s.obj i oi hi
        refine ⟨e', he', hoi.same (Emb.le_refl _) (hkeep _ fun heq => hii ?_)⟩
        cases hown : oi.own with
        | true => exact s.inj i id oi o e' e hi hid hown ho he' he heq
        | false =>
          have h1 := hoi.ro hown
          obtain ⟨e2, he2, h2⟩ := s.obj id o hid
          rw [he] at he2; cases he2
          have := h2.ge ho
          omega
    · have key : ∀ (k : Nat) (ok : AO), h.upd id o' k = some ok → ok.own = true → ∃ ok', h k = some ok' ∧ ok'.own = true := fun k ok h1 h2 => by
        unfold Hp.upd at h1
        split at h1
        · rename_i hk; subst hk; exact ⟨o, hid, ho⟩
        · exact ⟨ok, h1, h2⟩
      obtain ⟨oi', hi', hi''⟩ := key i oi hi h1
      obtain ⟨oj', hj', hj''⟩ := key j oj hj h2
      exact s.inj i j oi' oj' ei ej hi' hj' hi'' hj'' h3 h4 h5
    · obtain ⟨k1, k2⟩ := s.fz b ob hb
      refine ⟨(hkeep b fun hbe => k2 ⟨id, o, e, hid, ho, he, hbe.symm⟩).trans k1, fun ⟨i, oi, ei, h1, h2, h3, h4⟩ => k2 ?_⟩
      unfold Hp.upd at h1
      split at h1
      · rename_i hi; subst hi; exact ⟨i, o, ei, hid, ho, h3, h4⟩
      · exact ⟨i, oi, ei, h1, h2, h3, h4⟩
  le := Nat.le_refl _
  os := hos
  tape := htape
  output := hout
  size := by omega
  keep b hb hn := hkeep b fun hbe => hn ⟨id, o, e, hid, ho, he, hbe.symm⟩
  fzn _ _ h := .inl h
  foot b hb := by
    obtain ⟨i, oi, ei, h1, h2, h3, h4⟩ := hb
    unfold Hp.upd at h1
    split at h1
    · rename_i hi; subst hi; exact .inl ⟨i, o, ei, hid, ho, h3, h4⟩
    · exact .inl ⟨i, oi, ei, h1, h2, h3, h4⟩

/-- An own row is told under another name from now on (an append in place). -/
theorem Post.move {N0 : Nat} {ρ : Emb} {h : Hp} {w w' : World} (s : Sim N0 ρ h w) {id nid : Nat} {e e' : E} {o o' : AO} (hid : h id = some o) (he : ρ id = some e) (ho : o.own = true) (ho' : o'.own = true) (hn : ρ nid = none) (hb : e'.blk = e.blk)
    (hos : w'.os = w.os) (htape : w'.tape = w.tape) (hout : w'.output = w.output) (hsize : w'.heap.size = w.heap.size) (hkeep : ∀ b, b ≠ e.blk → w'.heap[b]? = w.heap[b]?)
    (hr : OR N0 (ρ.upd nid e') w' e' o') : Post N0 ρ h nid w (ρ.upd nid e') (fun i => if i = nid then some o' else if i = id then none else h i) (nid + 1) w' where
  ext := Emb.le_upd e' hn
  dom i e1 h1 := by
    unfold Emb.upd at h1
    simp only at h1
    split at h1
    · rename_i hi; exact .inr (by omega)
    · exact .inl h1
  sim := by
    refine ⟨by rw [hsize]; exact s.base, fun i oi hi => ?_, fun i j oi oj ei ej hi hj h1 h2 h3 h4 h5 => ?_, fun b ob hb => ?_⟩
    · try simp only at hi
      split at hi
      · rename_i hii; subst hii; cases hi; exact ⟨e', Emb.upd_same _ _ _, hr⟩
      · rename_i hii
        split at hi
        · cases hi
        · rename_i hi2
          obtain ⟨e1, he1, hoi⟩ := s.obj i oi hi
          refine ⟨e1, by simp [Emb.upd, hii, he1], hoi.same (Emb.le_upd e' hn) (hkeep _ fun heq => hi2 ?_)⟩
          cases hown : oi.own with
          | true => exact s.inj i id oi o e1 e hi hid hown ho he1 he heq
          | false =>
            have h1 := hoi.ro hown
            obtain ⟨e2, he2, h2⟩ := s.obj id o hid
            rw [he] at he2; cases he2
            have := h2.ge ho
            omega
    · have key : ∀ (k : Nat) (ok : AO) (ek : E), k ≠ nid → (if k = nid then some o' else if k = id then none else h k) = some ok → ρ.upd nid e' k = some ek → k ≠ id ∧ h k = some ok ∧ ρ k = some ek := fun k ok ek hk h1 h2 => by
        rw [if_neg hk] at h1
        simp only [Emb.upd, if_neg hk] at h2
        split at h1
        · cases h1
        · rename_i h3; exact ⟨h3, h1, h2⟩
      by_cases hi1 : i = nid
      · by_cases hj1 : j = nid
        · rw [hi1, hj1]
        · obtain ⟨k1, k2, k3⟩ := key j oj ej hj1 hj h4
          subst hi1
          rw [Emb.upd_same] at h3; cases h3
          exact absurd (s.inj j id oj o ej e k2 hid h2 ho k3 he (by omega)) k1
      · by_cases hj1 : j = nid
        · obtain ⟨k1, k2, k3⟩ := key i oi ei hi1 hi h3
          subst hj1
          rw [Emb.upd_same] at h4; cases h4
          exact absurd (s.inj i id oi o ei e k2 hid h1 ho k3 he (by omega)) k1
        · obtain ⟨k1, k2, k3⟩ := key i oi ei hi1 hi h3
          obtain ⟨l1, l2, l3⟩ := key j oj ej hj1 hj h4
          exact s.inj i j oi oj ei ej k2 l2 h1 h2 k3 l3 h5
    · obtain ⟨k1, k2⟩ := s.fz b ob hb
      refine ⟨(hkeep b fun hbe => k2 ⟨id, o, e, hid, ho, he, hbe.symm⟩).trans k1, fun ⟨i, oi, ei, h1, h2, h3, h4⟩ => k2 ?_⟩
      try simp only at h1
      split at h1
      · rename_i hi; subst hi
        rw [Emb.upd_same] at h3; cases h3
        exact ⟨id, o, e, hid, ho, he, by omega⟩
      · rename_i hi
        split at h1
        · cases h1
        · simp only [Emb.upd, if_neg hi] at h3
          exact ⟨i, oi, ei, h1, h2, h3, h4⟩
  le := Nat.le_succ _
  os := hos
  tape := htape
  output := hout
  size := by omega
  keep b hb' hn' := hkeep b fun hbe => hn' ⟨id, o, e, hid, ho, he, hbe.symm⟩
  fzn _ _ h := .inl h
  foot b hb' := by
    obtain ⟨i, oi, ei, h1, h2, h3, h4⟩ := hb'
    try simp only at h1
    split at h1
    · rename_i hi; subst hi
      rw [Emb.upd_same] at h3; cases h3
      exact .inl ⟨id, o, e, hid, ho, he, by omega⟩
    · rename_i hi
      split at h1
      · cases h1
      · simp only [Emb.upd, if_neg hi] at h3
        exact .inl ⟨i, oi, ei, h1, h2, h3, h4⟩
end Go.Rx
