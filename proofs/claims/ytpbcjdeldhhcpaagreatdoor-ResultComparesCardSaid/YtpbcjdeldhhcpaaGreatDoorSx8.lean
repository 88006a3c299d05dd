import Derived.Test.YtpbcjdeldhhcpaaGreatDoorSx7
import Derived.ReadAgain
import Derived.ChangeSame
import Derived.Below
import Derived.RowKit
import Derived.OpenShut
import Derived.JoinedCond
import Derived.Deep.Slices
set_option linter.unusedVariables false
set_option linter.unusedSimpArgs false
set_option linter.unusedSectionVars false
set_option linter.unusedVariables false
noncomputable section
namespace Go.Rx
open Go Go.ChangeShapes Go.WideShapes Go.RowKit

/-! ### S13. A law's arguments, out of their reading -/
/-- A world of which all is frozen. -/
def R0 (w : World) : Emb := ⟨fun _ => none, fun b => w.heap[b]?⟩
theorem R0_sim (w : World) : Sim w.heap.size (R0 w) H0.get w :=
  ⟨Nat.le_refl _, fun i o ho => (by cases ho), fun i j o o' e e' ho _ _ _ _ _ _ => (by cases ho), fun b o hb => ⟨hb, fun ⟨id, x, e, h1, _⟩ => (by cases h1)⟩⟩
theorem PureC.calls {P : Program} {f : FuncId} {args : List AV} {v : AV} (r : PureC P f args v) {w : World} {vs : List Value} (hargs : VRs (R0 w) args vs) :
    Calls P f vs.toArray w (fun e w' => ∃ ρ x, e = .returned x ∧ VR ρ v x ∧ Below w.heap.size w w') := by
  refine callsIn_wide.1 (CallsIn.mono (r H0 w.heap.size (R0 w) w vs (R0_sim w) hargs (fun _ _ => rfl)) ?_)
  rintro e w' ⟨ρ', x, rfl, hv, hp⟩
  exact ⟨ρ', x, rfl, hv, hp.below (R0_sim w)⟩

/-- What reads as a datum of a type reads as a value of α. -/
structure Rd (P : Program) (w : World) (t : TypeId) {α : Type} (enc : α → List AV) (ok : α → Prop) : Prop where
  rd : ∀ {H : Type} (en : TypeId × Value → H) (fuel : Nat) (cs : List Value) (x : DataW H × List MemPlace), DataW.trod en P w 0 (fun _ => true) true fuel t cs = some x → ∃ a, VRs (R0 w) (enc a) cs ∧ ok a

section
variable {P : Program} {w : World} {t e : TypeId}
theorem Rd.str (ht : P.underlying t = some .string) : Rd P w t (fun s : ByteArray => [AV.str s]) fun s => s.size ≤ maxLen := ⟨fun en fuel cs x h => by
  obtain ⟨s, rfl, _, hs⟩ := DataW.trod_string ht h
  exact ⟨s, .cons (.str s) .nil, hs⟩⟩
theorem Rd.bool (ht : P.underlying t = some .bool) : Rd P w t (fun b : Bool => [AV.bool b]) fun _ => True := ⟨fun en fuel cs x h => by
  obtain ⟨b, rfl, _⟩ := DataW.trod_bool ht h
  exact ⟨b, .cons (.bool b) .nil, trivial⟩⟩
theorem Rd.int {k : IntKind} (ht : P.underlying t = some (.int k)) : Rd P w t (fun n : Int => [AV.int k n]) fun n => (Lit.int k n).wf = true := ⟨fun en fuel cs x h => by
  obtain ⟨n, rfl, _, hn⟩ := DataW.trod_int ht h
  exact ⟨n, .cons (.int k n) .nil, hn⟩⟩
theorem Rd.map {α β : Type} {enc : α → List AV} {ok : α → Prop} (f : α → β) {enc2 : β → List AV} {ok2 : β → Prop} (h : Rd P w t enc ok) (he : ∀ a, enc2 (f a) = enc a) (hok : ∀ a, ok a → ok2 (f a)) : Rd P w t enc2 ok2 := ⟨fun en fuel cs x hx => by
  obtain ⟨a, h1, h2⟩ := h.rd en fuel cs x hx
  exact ⟨f a, by rw [he]; exact h1, hok a h2⟩⟩
/-- The cells of a row, out of its elements. -/
theorem rows_vrs {α : Type} {enc : α → List AV} {ok : α → Prop} {m : Nat} {ρ : Emb} (get : Nat → List Value) : ∀ (n : Nat), (∀ i, i < n → ∃ a, VRs ρ (enc a) (get i) ∧ ok a) → ∃ l : List α, l.length = n ∧ (∀ a ∈ l, ok a) ∧ VRs ρ (l.flatMap enc) ((List.range n).flatMap get)
  | 0, _ => ⟨[], rfl, by simp, .nil⟩
  | n + 1, h => by
    obtain ⟨l, h1, h2, h3⟩ := rows_vrs (m := m) get n fun i hi => h i (by omega)
    obtain ⟨a, h4, h5⟩ := h n (Nat.lt_succ_self n)
    refine ⟨l ++ [a], by simp [h1], fun b hb => ?_, ?_⟩
    · rcases List.mem_append.1 hb with hb | hb
      · exact h2 b hb
      · simp at hb; subst hb; exact h5
    · rw [List.range_succ, List.flatMap_append, List.flatMap_append]
      simpa using h3.append h4
theorem flat_range_get {get : Nat → List Value} {m : Nat} {n : Nat} (hm : ∀ i, i < n → (get i).length = m) : ∀ (j : Nat) (x : Value), ((List.range n).flatMap get)[j]? = some x → ∃ i c, i < n ∧ c < m ∧ j = i * m + c ∧ (get i)[c]? = some x := by
  induction n with
  | zero => intro j x h; simp at h
  | succ n ih =>
    intro j x h
    rw [List.range_succ, List.flatMap_append] at h
    have hlen : ((List.range n).flatMap get).length = n * m := by
      have : ∀ k, k ≤ n → ((List.range k).flatMap get).length = k * m := by
        intro k
        induction k with
        | zero => simp
        | succ k ihk =>
          intro hk
          rw [List.range_succ, List.flatMap_append, List.length_append, ihk (by omega)]
          simp [hm k (by omega), Nat.add_mul]
      exact this n (Nat.le_refl _)
    rcases Nat.lt_or_ge j (n * m) with hj | hj
    · rw [List.getElem?_append_left (by omega)] at h
      obtain ⟨i, c, h1, h2, h3, h4⟩ := ih (fun i hi => hm i (by omega)) j x h
      exact ⟨i, c, by omega, h2, h3, h4⟩
    · rw [List.getElem?_append_right (by omega), hlen] at h
      simp only [List.flatMap_cons, List.flatMap_nil, List.append_nil] at h
      have hc : j - n * m < m := by
        have := (List.getElem?_eq_some_iff.1 h).1
        rw [hm n (Nat.lt_succ_self n)] at this
        exact this
      exact ⟨n, j - n * m, Nat.lt_succ_self n, hc, by omega, h⟩
theorem Rd.slice {α : Type} {enc : α → List AV} {ok : α → Prop} {m : Nat} (ht : P.underlying t = some (.slice e)) (hc : P.cellsOf e = m) (hm : 1 ≤ m) (h : Rd P w e enc ok) :
    Rd P w t (fun l : List α => [vlist m enc l]) fun l => (∀ a ∈ l, ok a) ∧ l.length ≤ maxLen := ⟨fun en fuel cs x hx => by
  rcases Deep.open_slice ht hx with ⟨rfl, _⟩ | ⟨a, len, cap, mm, n, D, Pl, rfl, hb, hl, hcap, hmm, _, hel⟩
  · exact ⟨[], .cons .viewN .nil, by simp, by simp⟩
  · simp only [if_true] at hmm
    subst hmm
    rw [hc] at hel
    have hel' : ∀ i, i < mm → ∃ a' cs', VRs (R0 w) (enc a') cs' ∧ ok a' ∧ cs'.length = m ∧ ∀ c, c < m → w.cell? (a.add (i * m + c)) = cs'[c]? := fun i hi => by
      obtain ⟨cs', h1, h2⟩ := hel i hi
      obtain ⟨a', h3, h4⟩ := h.rd en n cs' _ h2
      obtain ⟨_, h5, h6⟩ := World.cells?_some h1
      exact ⟨a', cs', h3, h4, h5, fun c hc' => by rw [← Deep.add_add]; exact h6 c hc'⟩
    obtain ⟨get, hget⟩ := Deep.choose_lt (α := List Value) (p := fun i cs' => ∃ a', VRs (R0 w) (enc a') cs' ∧ ok a' ∧ cs'.length = m ∧ ∀ c, c < m → w.cell? (a.add (i * m + c)) = cs'[c]?) (fun i hi => by
      obtain ⟨a', cs', h1, h2, h3, h4⟩ := hel' i hi
      exact ⟨cs', a', h1, h2, h3, h4⟩)
    obtain ⟨l, k1, k2, k3⟩ := rows_vrs (m := m) (ok := ok) (enc := enc) (ρ := R0 w) get len fun i hi => by
      obtain ⟨a', h1, h2, _⟩ := hget i (by omega)
      exact ⟨a', h1, h2⟩
    refine ⟨l, ?_, k2, by omega⟩
    refine .cons ?_ .nil
    unfold vlist
    rw [k1]
    rcases Nat.eq_zero_or_pos mm with h0 | h0
    · subst h0
      obtain rfl : len = 0 := by omega
      exact .view0 a
    · -- the block
      obtain ⟨a', h1, h2, h3, h4⟩ := hget (mm - 1) (by omega)
      have hlast := h4 (m - 1) (by omega)
      have hsome : (get (mm - 1))[m - 1]? = some ((get (mm - 1))[m - 1]'(by omega)) := List.getElem?_eq_getElem _
      rw [hsome] at hlast
      obtain ⟨block, off, spot⟩ := a
      have hspot : spot = none := by
        obtain ⟨_, _, _, g3, g4⟩ := hget 0 (by omega)
        have g5 := g4 0 (by omega)
        have g6 : (get 0)[0]? = some ((get 0)[0]'(by omega)) := List.getElem?_eq_getElem _
        rw [g6] at g5
        have g7 : Addr.add ⟨block, off, spot⟩ (0 * m + 0) = ⟨block, off, spot⟩ := by simp [Addr.add]
        rw [g7] at g5
        unfold World.cell? at g5
        split at g5
        · cases spot with
          | none => rfl
          | some z => simp at g5
        · cases g5
      subst hspot
      have hcell : ∀ j, w.cell? (Addr.add ⟨block, off, none⟩ j) = w.cell? ⟨block, off + j, none⟩ := fun j => by rw [add_at]
      rw [hcell] at hlast
      have hblk : ∃ c et fr, w.heap[block]? = some (.cells c et fr) ∧ off + mm * m ≤ c.size := by
        unfold World.cell? at hlast
        split at hlast
        · rename_i c et fr hcc
          simp only [Option.isSome_none, Bool.false_eq_true, if_false] at hlast
          have := (Array.getElem?_eq_some_iff.1 hlast).1
          refine ⟨c, et, fr, hcc, ?_⟩
          have h5 : (mm - 1) * m + m = mm * m := by
            have : mm = (mm - 1) + 1 := by omega
            conv => rhs; rw [this, Nat.add_mul, Nat.one_mul]
          omega
        · cases hlast
      obtain ⟨c, et, fr, hblk, hsz⟩ := hblk
      refine .view (ρ := R0 w) (b := block) (base := off) 0 len mm m hblk (fun j y hj => ?_) k3 hl (by simpa using hsz)
      obtain ⟨i, cc, g1, g2, g3, g4⟩ := flat_range_get (m := m) (fun i hi => by
        obtain ⟨_, _, _, h3, _⟩ := hget i (by omega)
        exact h3) j y hj
      obtain ⟨_, _, _, _, h4⟩ := hget i (by omega)
      have := h4 cc g2
      rw [g4, hcell] at this
      unfold World.cell? at this
      simp only [hblk, Option.isSome_none, Bool.false_eq_true, if_false] at this
      rw [g3]; exact this⟩

/-- Fields that lie one behind the other. -/
structure RdF (P : Program) (w : World) (fs : List Field) (o m : Nat) {α : Type} (enc : α → List AV) (ok : α → Prop) : Prop where
  rd : ∀ {H : Type} (en : TypeId × Value → H) (n : Nat) (cs : List Value), o + m ≤ cs.length → (∀ f ∈ fs, ∃ x, DataW.trod en P w 0 (fun _ => true) true n f.type ((cs.drop f.offset).take (P.cellsOf f.type)) = some x) → ∃ a, VRs (R0 w) (enc a) ((cs.drop o).take m) ∧ ok a
theorem RdF.nil {o : Nat} : RdF P w [] o 0 (fun _ : Unit => []) fun _ => True := ⟨fun en n cs _ _ => ⟨(), by simp; exact .nil, trivial⟩⟩
theorem RdF.cons {f : Field} {fs : List Field} {o m0 m1 : Nat} {α β : Type} {enc0 : α → List AV} {enc1 : β → List AV} {ok0 : α → Prop} {ok1 : β → Prop} (h0 : Rd P w f.type enc0 ok0) (ho : f.offset = o) (hc : P.cellsOf f.type = m0) (h1 : RdF P w fs (o + m0) m1 enc1 ok1) :
    RdF P w (f :: fs) o (m0 + m1) (fun p : α × β => enc0 p.1 ++ enc1 p.2) fun p => ok0 p.1 ∧ ok1 p.2 := ⟨fun en n cs hl hf => by
  obtain ⟨x, hx⟩ := hf f List.mem_cons_self
  obtain ⟨a, k1, k2⟩ := h0.rd en n _ x hx
  obtain ⟨b, k3, k4⟩ := h1.rd en n cs (by omega) fun g hg => hf g (List.mem_cons_of_mem _ hg)
  refine ⟨(a, b), ?_, k2, k4⟩
  rw [ho, hc] at k1
  have : (cs.drop o).take (m0 + m1) = (cs.drop o).take m0 ++ (cs.drop (o + m0)).take m1 := by
    rw [List.take_add, List.drop_drop]
  rw [this]
  exact k1.append k3⟩
theorem Rd.struct {fs : Array Field} {m : Nat} {α : Type} {enc : α → List AV} {ok : α → Prop} (ht : P.underlying t = some (.struct fs)) (hc : P.cellsOf t = m) (h : RdF P w fs.toList 0 m enc ok) : Rd P w t enc ok := ⟨fun en fuel cs x hx => by
  obtain ⟨xs, n, _, _, hl, hlen, hf⟩ := DataW.trod_struct ht hx
  obtain ⟨a, k1, k2⟩ := h.rd en n cs (by omega) fun f hfm => by
    obtain ⟨i, hi⟩ := List.getElem?_of_mem hfm
    have hi' : fs[i]? = some f := by simpa using hi
    have := hf i f hi'
    have hlt : i < xs.length := by rw [hlen]; exact (Array.getElem?_eq_some_iff.1 hi').1
    exact ⟨xs[i], by rw [this]; exact List.getElem?_eq_getElem hlt⟩
  refine ⟨a, ?_, k2⟩
  rw [List.drop_zero, List.take_of_length_le (by omega)] at k1
  exact k1⟩

/-! Arguments. -/
theorem arg_struct {fs : Array Field} {α : Type} {enc : α → List AV} {ok : α → Prop} {H : Type} {en : TypeId × Value → H} {v : Value} {d : DataW H} {p : List MemPlace} {r : Reach} {b0 : Nat} (ht : P.underlying t = some (.struct fs)) (h : Rd P w t enc ok) (hv : Value.okWide P w r b0 t v) (hd : DataW.Trod en P w 0 (fun _ => true) true t v d p) :
    ∃ a, VR (R0 w) (.agg (enc a)) v ∧ ok a := by
  obtain ⟨cs, rfl, _⟩ := okWide_struct ht hv
  obtain ⟨n, hn⟩ := hd
  obtain ⟨a, h1, h2⟩ := h.rd en n _ _ hn
  exact ⟨a, .agg (vs := cs.toList) (by simpa [Value.cells] using h1), h2⟩
theorem arg_slice {α : Type} {enc : α → AV} {ok : α → Prop} {H : Type} {en : TypeId × Value → H} {v : Value} {d : DataW H} {p : List MemPlace} {r : Reach} {b0 : Nat} (ht : P.underlying t = some (.slice e)) (h : Rd P w t (fun a => [enc a]) ok) (hv : Value.okWide P w r b0 t v) (hd : DataW.Trod en P w 0 (fun _ => true) true t v d p) :
    ∃ a, VR (R0 w) (enc a) v ∧ ok a := by
  obtain ⟨x, len, cap, rfl⟩ := okWide_slice ht hv
  obtain ⟨n, hn⟩ := hd
  obtain ⟨a, h1, h2⟩ := h.rd en n _ _ hn
  refine ⟨a, ?_, h2⟩
  cases h1 with
  | cons h1 _ => exact h1
theorem arg_int {k : IntKind} {H : Type} {en : TypeId × Value → H} {v : Value} {d : DataW H} {p : List MemPlace} {r : Reach} {b0 : Nat} (ht : P.underlying t = some (.int k)) (hv : Value.okWide P w r b0 t v) (hd : DataW.Trod en P w 0 (fun _ => true) true t v d p) :
    ∃ a, VR (R0 w) (.int k a) v ∧ (Lit.int k a).wf = true := by
  obtain ⟨x, rfl⟩ := okWide_int ht hv
  obtain ⟨n, hn⟩ := hd
  obtain ⟨a, h1, h2⟩ := (Rd.int ht).rd en n _ _ hn
  refine ⟨a, ?_, h2⟩
  cases h1 with
  | cons h1 _ => exact h1
theorem arg_str {H : Type} {en : TypeId × Value → H} {v : Value} {d : DataW H} {p : List MemPlace} {r : Reach} {b0 : Nat} (ht : P.underlying t = some .string) (hv : Value.okWide P w r b0 t v) (hd : DataW.Trod en P w 0 (fun _ => true) true t v d p) :
    ∃ a, VR (R0 w) (.str a) v ∧ a.size ≤ maxLen := by
  obtain ⟨x, rfl⟩ := okWide_string ht hv
  obtain ⟨n, hn⟩ := hd
  obtain ⟨a, h1, h2⟩ := (Rd.str ht).rd en n _ _ hn
  refine ⟨a, ?_, h2⟩
  cases h1 with
  | cons h1 _ => exact h1
end

/-! ### S14. What a law's call leaves behind -/
theorem law_post {H : Type} {enc : TypeId × Value → H} {P : Program} (hl : laidOutB P = true) (hmr : mapsRowed P = true)
    (hz : ((List.range P.types.size).all fun t => match P.underlying t with | some (.slice e) => decide (0 < P.cellsOf e) | _ => true) = true)
    {f : Func} {s : ChangeSpec} {tb : TypeId} (hT : ∀ t ∈ f.params.toList, t < P.types.size) (hres : f.resultTypes = #[tb]) (htb : P.underlying tb = some .bool) (hvars : s.vars = [])
    {W W' : World} {args : Array Value} {ds gs : List (DataW H)} {before : List MemPlace} (hW : DataW.Whole enc P f.params.toList s.vars false W args.toList ds gs before)
    (h1 : (s.fn H (ds ++ gs)).results = [.lit (.bool true)]) (h2 : (s.fn H (ds ++ gs)).args = ds) (h3 : (s.fn H (ds ++ gs)).vars = []) (hb : Below W.heap.size W W') :
    s.post enc P f false true false false W args (.bool true) W' := by
  have hW' := hW
  obtain ⟨p, q, hA, hV, hps, hfz, hnd⟩ := hW
  have hVn := hV
  rw [hvars] at hVn
  obtain ⟨hg, hq⟩ := trodVars_none hVn
  have hlt : ∀ x ∈ before, x.block < W.heap.size := fun x hx => hW'.lt x hx
  have hsame : ∀ x ∈ p, W.sameAt W' x := fun x hx => hb.same (hlt x (by rw [hps]; exact List.mem_append_left _ hx))
  have hcarry : ∀ {ts : List TypeId} {vs : List Value} {dd : List (DataW H)} {ps : List MemPlace}, DataW.TrodAll enc P W 0 (fun _ => true) true ts vs dd ps → (∀ x ∈ ps, W.sameAt W' x) → DataW.TrodAll enc P W' 0 (fun _ => true) true ts vs dd ps := by
    intro ts
    induction ts with
    | nil => intro vs dd ps h _; obtain ⟨rfl, rfl, rfl⟩ := trodAll_nil h; exact rfl
    | cons t ts ih =>
      intro vs dd ps h hs
      obtain ⟨v, vs1, d, ds1, a, b, rfl, rfl, rfl, ⟨n, hn⟩, k2⟩ := trodAll_cons h
      exact ⟨a, b, ⟨n, DataW.trod_carry n _ _ _ hn fun x hx => hs x (List.mem_append_left _ hx)⟩, ih k2 fun x hx => hs x (List.mem_append_right _ hx), rfl⟩
  have hargs : ∀ sp : Nat → Bool, (∀ x ∈ before, sp x.block = true) → DataW.TrodAll enc P W' 0 sp true f.params.toList args.toList (s.fn H (ds ++ gs)).args p := fun sp hsp => by
    rw [h2]
    exact (hcarry hA hsame).respare (kids_rows hl hmr) (slices_full_of P hz) hT fun x hx => hsp x (by rw [hps]; exact List.mem_append_left _ hx)
  have hv : ∀ sp : Nat → Bool, (∀ x ∈ before, sp x.block = true) → DataW.TrodVars enc P W' sp s.vars (s.fn H (ds ++ gs)).vars q := fun sp _ => by
    rw [hvars, h3, hq]; exact rfl
  have hresl : (Value.bool true).resultList f.resultTypes.size = [Value.bool true] := by rw [hres]; rfl
  have hr : ∀ (b : Nat) (sp : Nat → Bool) (hd : Bool), DataW.TrodAll enc P W' b sp hd f.resultTypes.toList ((Value.bool true).resultList f.resultTypes.size) (s.fn H (ds ++ gs)).results [] := fun b sp hd => by
    rw [hresl, h1, hres]
    exact trodAll_cons_mk (shut_bool htb _) trodAll_mk0
  have hold : ∀ x ∈ before, (fun b => decide (b < W.heap.size)) x.block = true := fun x hx => by simpa using hlt x hx
  refine ⟨ds, gs, before, [], p, q, hW', hr _ _ _, hargs _ hold, hv _ hold, World.keptBut_mono (fun x hx => ⟨hx, ?_⟩) (hb.frame (· ∈ before)), fun _ => ?_⟩
  · rw [hps, List.mem_append] at hx
    exact Or.inr hx
  · refine ⟨?_, _, _, ([] ++ p) ++ q, ⟨[] ++ p, q, trodAll_append (hargs _ (fun _ _ => rfl)) (hr _ _ _), hv _ (fun _ _ => rfl), rfl, ?_, ?_⟩, ?_⟩
    · intro j t r hj hr'
      rw [hresl] at hr'
      rw [hres] at hj
      match j with
      | 0 =>
        simp at hj hr'
        subst hj hr'
        exact okWide_bool_mk htb true
      | j + 1 => simp at hj
    · intro b off hp
      have hp' : MemPlace.cell b off ∈ before := by rw [hps]; simpa using hp
      rw [hb.frozen (hlt _ hp')]
      exact hfz b off hp'
    · intro ha; cases ha
    · intro x hx _
      rw [hps]
      simpa using hx
end Go.Rx
