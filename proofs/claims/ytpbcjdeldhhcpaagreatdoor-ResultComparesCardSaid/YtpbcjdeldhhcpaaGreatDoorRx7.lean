import Derived.Test.YtpbcjdeldhhcpaaGreatDoorRx6
import Derived.RangeFuncRecord
set_option linter.unusedVariables false
set_option linter.unusedSimpArgs false
set_option linter.unusedSectionVars false
noncomputable section
namespace Go.Rx
open Go

/-! ### 19. Maps -/
def sameA : AV → AV → Option Bool
  | .int a x, .int b y => if a = b then some (x == y) else none
  | .str a, .str b => some (a == b)
  | .bool a, .bool b => some (a == b)
  | _, _ => none
def keyKind : TypeDesc → AV → Bool
  | .int _, .int _ _ => true
  | .string, .str _ => true
  | .bool, .bool _ => true
  | _, _ => false
def findA (k : AV) : List (AV × AV × Nat) → Nat → Option (Option (Nat × AV × Nat))
  | [], _ => some none
  | (k', v, b) :: es, i =>
    match sameA k k' with
    | some true => some (some (i, v, b))
    | some false => findA k es (i + 1)
    | none => none

theorem sameA_now {ρ : Emb} {d : TypeDesc} {k k' : AV} {x y : Value} {b : Bool} (hk : VR ρ k x) (hk' : VR ρ k' y) (hd : keyKind d k = true) (h : sameA k k' = some b) : Instr.sameNow d x y = some b := by
  unfold sameA at h
  split at h
  · split at h
    · rename_i he
      subst he
      simp only [Option.some.injEq] at h; subst h
      cases hk; cases hk'
      cases d <;> first
        | exact absurd (show false = true from hd) Bool.false_ne_true
        | simp [Instr.sameNow]
    · simp at h
  · simp only [Option.some.injEq] at h; subst h
    cases hk; cases hk'
    cases d <;> first
      | exact absurd (show false = true from hd) Bool.false_ne_true
      | rfl
  · simp only [Option.some.injEq] at h; subst h
    cases hk; cases hk'
    cases d <;> first
      | exact absurd (show false = true from hd) Bool.false_ne_true
      | rfl
  · simp at h
theorem sameA_bits {ρ : Emb} {k k' : AV} {x y : Value} (hk : VR ρ k x) (hk' : VR ρ k' y) (h : sameA k k' = some true) (n : Nat) : Instr.sameBits n y x = true := by
  unfold sameA at h
  split at h
  · split at h
    · rename_i he
      subst he
      simp only [Option.some.injEq, beq_iff_eq] at h; subst h
      cases hk; cases hk'
      cases n <;> simp [Instr.sameBits]
    · simp at h
  · rename_i a b
    simp only [Option.some.injEq] at h
    have hab : a = b := by
      have h2 : (a.data == b.data) = true := h
      have h3 : a.data = b.data := eq_of_beq h2
      cases a; cases b; simp_all
    subst hab
    cases hk; cases hk'
    cases n <;> exact h
  · simp only [Option.some.injEq, beq_iff_eq] at h; subst h
    cases hk; cases hk'
    cases n <;> simp [Instr.sameBits]
  · simp at h

theorem findA_now {ρ : Emb} {d : TypeDesc} {k : AV} {x : Value} (hk : VR ρ k x) (hd : keyKind d k = true) : ∀ {es : List (AV × AV × Nat)} {fs : List MapEntry}, MR ρ es fs → ∀ (i : Nat) {r : Option (Nat × AV × Nat)}, findA k es i = some r →
    match r with
    | none => Instr.findNow d x fs i = some none
    | some (j, v, b) => ∃ (f : MapEntry) (k' : AV), Instr.findNow d x fs i = some (some (j, f.val)) ∧ VR ρ v f.val ∧ i ≤ j ∧ fs[j - i]? = some f ∧ f.born = b ∧ es[j - i]? = some (k', v, b) ∧ (∀ n, Instr.sameBits n f.key x = true)
  | _, _, .nil, i, r, h => by
    simp only [findA, Option.some.injEq] at h
    subst h
    rfl
  | _, _, .cons (k := k') (v := v) (b := b) (e := e) (es := es) (fs := fs) hk' hv hb t, i, r, h => by
    rw [findA] at h
    split at h
    · rename_i hs
      simp only [Option.some.injEq] at h
      subst h
      refine ⟨e, k', ?_, hv, Nat.le_refl _, by simp, hb, by simp, sameA_bits hk hk' hs⟩
      rw [Instr.findNow, sameA_now hk hk' hd hs]
    · rename_i hs
      have ih := findA_now hk hd t (i + 1) h
      rw [Instr.findNow, sameA_now hk hk' hd hs]
      cases r with
      | none => exact ih
      | some jv =>
        obtain ⟨j, v', b'⟩ := jv
        obtain ⟨f, k2, h1, h2, h3, h4, h5, h6, h7⟩ := ih
        refine ⟨f, k2, h1, h2, by omega, ?_, h5, ?_, h7⟩
        · rw [show j - i = (j - (i + 1)) + 1 by omega, List.getElem?_cons_succ]; exact h4
        · rw [show j - i = (j - (i + 1)) + 1 by omega, List.getElem?_cons_succ]; exact h6
    · simp at h

theorem run_checkKey {D : Tab} {P : Program} (hD : D.Ok P) {ρ : Emb} {w : World} {t : TypeId} {d : TypeDesc} {k : AV} {x : Value} (hk : VR ρ k x) (hu : D.und t = some d) (hd : keyKind d k = true) (e : Bool) (n : Nat) : (Instr.checkKey e (n + 1) t x).run P w = .ok () w := by
  cases d <;> first
    | exact absurd (show false = true from hd) Bool.false_ne_true
    | skip
  all_goals
    cases k <;> first
      | exact absurd (show false = true from hd) Bool.false_ne_true
      | skip
  all_goals
    cases hk
    simp only [Instr.checkKey, Sem.run_bind, run_und hD hu, Result.andThen_ok]
    rfl
theorem run_findKey {D : Tab} {P : Program} (hD : D.Ok P) {w : World} {t : TypeId} {d : TypeDesc} {x : Value} {fs : List MapEntry} {r : Option (Nat × Value)} (hu : D.und t = some d) (h : Instr.findNow d x fs 0 = some r) : (Instr.findKey t x fs).run P w = .ok r w := by
  simp only [Instr.findKey, Sem.run_bind, run_und hD hu, Result.andThen_ok, h]
  rfl

def entriesOf (m : AV) (h : H) : Option (List (AV × AV × Nat)) :=
  match m with
  | .nilm => some []
  | .map id => match h.get id with
    | some (.map es _) => some es
    | _ => none
  | _ => none
def evLookup (D : Tab) (t : TypeId) (m k : AV) (ok : Bool) (h : H) : Option AV :=
  match D.und t with
  | some (.map kt et) =>
    match entriesOf m h, D.und kt, D.info et with
    | some es, some d, some (_, _, z) =>
      bif keyKind d k then
        match findA k es 0 with
        | some (some (_, v, _)) => some (bif ok then .tuple [v, .bool true] else v)
        | some none => some (bif ok then .tuple [ofVal z, .bool false] else ofVal z)
        | none => none
      else none
    | _, _, _ => none
  | _ => none
theorem evLookup_ok {D : Tab} {P : Program} (hD : D.Ok P) {N0 : Nat} {ρ : Emb} {h : H} {w : World} {t : TypeId} {m k r : AV} {a b : Value} {ok : Bool} (s : Sim N0 ρ h.get w) (hm : VR ρ m a) (hk : VR ρ k b) (he : evLookup D t m k ok h = some r) :
    ROk P N0 ρ h.get h.nx w (Instr.lookup t a b ok) r h.get h.nx := by
  unfold evLookup at he
  split at he
  case h_2 => simp at he
  rename_i kt et hu
  split at he
  case h_2 => simp at he
  rename_i es d n b' z hes hd hi
  cases q : keyKind d k with
  | false => simp [q] at he
  | true =>
    simp only [q, cond_true] at he
    -- the entries that the world holds
    have hent : ∃ fs : Array MapEntry, MR ρ es fs.toList ∧ ((a = .map none ∧ fs = #[]) ∨ ∃ r clk, a = .map (some r) ∧ w.heap[r]? = some (.map fs clk)) := by
      unfold entriesOf at hes
      split at hes
      · simp only [Option.some.injEq] at hes; subst hes
        cases hm
        exact ⟨#[], .nil, .inl ⟨rfl, rfl⟩⟩
      · split at hes
        · rename_i hg
          simp only [Option.some.injEq] at hes; subst hes
          obtain ⟨e, he', ho⟩ := s.obj _ _ hg
          obtain ⟨fs, hb, _, hmr⟩ := ho
          cases hm with
          | map hid =>
            rw [hid] at he'; cases he'
            exact ⟨fs, hmr, .inr ⟨_, _, rfl, hb⟩⟩
        · simp at hes
      · simp at hes
    obtain ⟨fs, hmr, hcase⟩ := hent
    have hck := fun e => run_checkKey hD (w := w) hk hd q e 9999
    have hfin : ∀ (v : Value) (o : Bool) (fr : Option (Nat × Value)), Instr.findNow d b fs.toList 0 = some fr → ((∃ i, fr = some (i, v)) ∧ o = true ∨ fr = none ∧ v = z ∧ o = false) →
        (Instr.lookup t a b ok).run P w = .ok (if ok then .tuple #[v, .bool o] else v) w := by
      intro v o fr hfr hv
      have hkey := run_findKey hD (w := w) hd hfr
      unfold Instr.lookup
      rw [Sem.run_bind, run_und hD hu, Result.andThen_ok]
      rcases hcase with ⟨rfl, rfl⟩ | ⟨r, clk, rfl, hb⟩
      · simp only [Sem.run_bind, Sem.run_pure, Result.andThen_ok, hck, hkey]
        rcases hv with ⟨⟨i, rfl⟩, rfl⟩ | ⟨rfl, rfl, rfl⟩
        · rfl
        · simp only [Sem.run_bind, run_zero hD hi, Result.andThen_ok]; rfl
      · have hgo : (getObj r).run P w = .ok (.map fs clk) w := by simp [getObj, Sem.run, hb]
        simp only [Sem.run_bind, hgo, Sem.run_pure, Result.andThen_ok, hck, hkey]
        rcases hv with ⟨⟨i, rfl⟩, rfl⟩ | ⟨rfl, rfl, rfl⟩
        · rfl
        · simp only [Sem.run_bind, run_zero hD hi, Result.andThen_ok]; rfl
    split at he
    · rename_i j v bn hf
      simp only [Option.some.injEq] at he
      obtain ⟨f, k', h1, h2, _⟩ := findA_now hk q hmr 0 hf
      refine .pure s _ (hfin f.val true _ h1 (.inl ⟨⟨_, rfl⟩, rfl⟩)) ?_
      subst he
      cases ok
      · exact h2
      · exact .tuple (vs := [f.val, .bool true]) (.cons h2 (.cons (.bool _) .nil))
    · rename_i hf
      simp only [Option.some.injEq] at he
      have h1 := findA_now hk q hmr 0 hf
      refine .pure s _ (hfin z false _ h1 (.inr ⟨rfl, rfl, rfl⟩)) ?_
      subst he
      cases ok
      · exact ofVal_rel ρ z
      · exact .tuple (vs := [z, .bool false]) (.cons (ofVal_rel ρ z) (.cons (.bool _) .nil))
    · simp at he

theorem MR.set {ρ : Emb} : ∀ {es : List (AV × AV × Nat)} {fs : List MapEntry}, MR ρ es fs → ∀ (j : Nat) {k v : AV} {b : Nat} {f : MapEntry}, VR ρ k f.key → VR ρ v f.val → f.born = b → MR ρ (es.set j (k, v, b)) (fs.set j f)
  | _, _, .nil, _, _, _, _, _, _, _, _ => by simp; exact .nil
  | _, _, .cons _ _ _ t, 0, _, _, _, _, h1, h2, h3 => by simp; exact .cons h1 h2 h3 t
  | _, _, .cons a b c t, j + 1, _, _, _, _, h1, h2, h3 => by simp; exact .cons a b c (MR.set t j h1 h2 h3)
theorem MR.snoc {ρ : Emb} : ∀ {es : List (AV × AV × Nat)} {fs : List MapEntry}, MR ρ es fs → ∀ {k v : AV} {b : Nat} {f : MapEntry}, VR ρ k f.key → VR ρ v f.val → f.born = b → MR ρ (es ++ [(k, v, b)]) (fs ++ [f])
  | _, _, .nil, _, _, _, _, h1, h2, h3 => .cons h1 h2 h3 .nil
  | _, _, .cons a b c t, _, _, _, _, h1, h2, h3 => .cons a b c (MR.snoc t h1 h2 h3)

/-- A block that is no row of cells is overwritten. -/
theorem Post.block {N0 : Nat} {ρ : Emb} {h : Hp} {nx : Nat} {w : World} (s : Sim N0 ρ h w) {id : Nat} {e : E} {o : AO} (hid : h id = some o) (he : ρ id = some e) (ho : o.own = true) (hlt : e.blk < w.heap.size) {o' : AO} (ho' : o'.own = true) (x : Obj)
    (hr : ∀ w' : World, w'.heap[e.blk]? = some x → OR N0 ρ w' e o') : Post N0 ρ h nx w ρ (h.upd id o') nx (w.putObj e.blk x) :=
  Post.write s hid he ho ho' rfl rfl rfl (by simp) (fun b hb => World.putObj_heap_other hb) (hr _ (World.putObj_heap_same hlt))

def evMapUpdate (D : Tab) (t : TypeId) (m k v : AV) (h : H) : Option H :=
  match D.und t, m with
  | some (.map kt _), .map id =>
    match h.get id, D.und kt with
    | some (.map es clk), some d =>
      bif keyKind d k then
        match findA k es 0 with
        | some (some (j, _, b)) => some (h.put id (some (.map (es.set j (k, v, b)) clk)))
        | some none => some (h.put id (some (.map (es ++ [(k, v, clk)]) (clk + 1))))
        | none => none
      else none
    | _, _ => none
  | _, _ => none
theorem modify_set (l : Array MapEntry) (j : Nat) (g : MapEntry → MapEntry) (f : MapEntry) (h : l[j]? = some f) : (l.modify j g).toList = l.toList.set j (g f) := by
  apply List.ext_getElem?
  intro i
  simp only [Array.getElem?_toList, Array.getElem?_modify, List.getElem?_set]
  by_cases hi : j = i
  · subst hi
    have hlt := (Array.getElem?_eq_some_iff.1 h).1
    have hg : l[j] = f := (Array.getElem?_eq_some_iff.1 h).2
    simp [hlt, hg]
  · simp [hi]
theorem evMapUpdate_ok {D : Tab} {P : Program} (hD : D.Ok P) {N0 : Nat} {ρ : Emb} {h h' : H} {w : World} {t : TypeId} {m k v : AV} {a b c : Value} (s : Sim N0 ρ h.get w) (hm : VR ρ m a) (hk : VR ρ k b) (hv : VR ρ v c) (he : evMapUpdate D t m k v h = some h') :
    ∃ w', (Instr.mapUpdate t a b c).run P w = .ok () w' ∧ Post N0 ρ h.get h.nx w ρ h'.get h'.nx w' := by
  unfold evMapUpdate at he
  split at he
  case h_2 => simp at he
  rename_i kt et id hu
  split at he
  case h_2 => simp at he
  rename_i es clk d hg hd
  cases q : keyKind d k with
  | false => simp [q] at he
  | true =>
    simp only [q, cond_true] at he
    obtain ⟨e, he', ho⟩ := s.obj _ _ hg
    have hlt := ho.lt
    obtain ⟨fs, hb, hge, hmr⟩ := ho
    cases hm with
    | map hid =>
      rw [hid] at he'; cases he'
      have hck := run_checkKey hD (w := w) hk hd q false 9999
      split at he
      · rename_i j v0 bn hf
        simp only [Option.some.injEq] at he; subst he
        obtain ⟨f, k', h1, h2, h3, h4, h5, h6, h7⟩ := findA_now hk q hmr 0 hf
        simp only [Nat.sub_zero] at h4 h6
        have h4' : fs[j]? = some f := by simpa using h4
        refine ⟨w.putObj e.blk (.map (fs.modify j fun x => { x with key := b, val := c }) clk), ?_, ?_⟩
        · unfold Instr.mapUpdate
          rw [Sem.run_bind, run_und hD hu, Result.andThen_ok]
          simp only [Sem.run_bind]
          have hgo : (getObj e.blk).run P w = .ok (.map fs clk) w := by simp [getObj, Sem.run, hb]
          rw [hgo, Result.andThen_ok]
          simp only [Sem.run_bind]
          rw [hck, Result.andThen_ok, run_findKey hD hd h1, Result.andThen_ok]
          have hks : (Instr.keyThatStays (((fs[j]?).map (·.key)).getD b) b).run P w = .ok b w := by
            rw [h4']
            simp only [Option.map_some, Option.getD_some, Instr.keyThatStays, h7 10000, if_true]
            rfl
          simp only [Sem.run_bind]
          rw [hks, Result.andThen_ok]
          simp [setObj, Sem.run, hb, World.putObj]
        · refine (Post.block (nx := h.nx) s hg hid rfl hlt (o' := .map (es.set j (k, v, bn)) clk) rfl _ fun w' hw' => ⟨_, hw', hge, ?_⟩).weaken (h.put_sub _ _) (Nat.le_refl _)
          rw [modify_set _ _ _ _ h4']
          exact hmr.set j hk hv h5
      · rename_i hf
        simp only [Option.some.injEq] at he; subst he
        have h1 := findA_now hk q hmr 0 hf
        refine ⟨w.putObj e.blk (.map (fs.push { key := b, val := c, born := clk }) (clk + 1)), ?_, ?_⟩
        · unfold Instr.mapUpdate
          rw [Sem.run_bind, run_und hD hu, Result.andThen_ok]
          simp only [Sem.run_bind]
          have hgo : (getObj e.blk).run P w = .ok (.map fs clk) w := by simp [getObj, Sem.run, hb]
          rw [hgo, Result.andThen_ok]
          simp only [Sem.run_bind]
          rw [hck, Result.andThen_ok, run_findKey hD hd h1, Result.andThen_ok]
          simp [setObj, Sem.run, hb, World.putObj]
        · refine (Post.block (nx := h.nx) s hg hid rfl hlt (o' := .map (es ++ [(k, v, clk)]) (clk + 1)) rfl _ fun w' hw' => ⟨_, hw', hge, ?_⟩).weaken (h.put_sub _ _) (Nat.le_refl _)
          rw [Array.toList_push]
          exact hmr.snoc hk hv rfl
      · simp at he

/-! ### 20. A string that is ranged over -/
def evRange (D : Tab) (t : TypeId) (x : AV) (h : H) : Option (AV × H) :=
  match x, D.und t with
  | .str s, some .string => some (.ptr h.nx 0, h.new (.siter s 0))
  | _, _ => none
theorem evRange_ok {D : Tab} {P : Program} (hD : D.Ok P) {N0 : Nat} {ρ : Emb} {h h' : H} {w : World} {t : TypeId} {x r : AV} {a : Value} (s : Sim N0 ρ h.get w) (hx : VR ρ x a) (he : evRange D t x h = some (r, h')) (hf : Fresh ρ h.nx h'.nx) :
    ROk P N0 ρ h.get h.nx w (Instr.range t a) r h'.get h'.nx := by
  unfold evRange at he
  split at he
  · rename_i st hu
    simp only [Option.some.injEq, Prod.mk.injEq] at he
    obtain ⟨rfl, rfl⟩ := he
    cases hx
    have hn : ρ h.nx = none := hf h.nx (Nat.le_refl _)
    refine ⟨ρ.upd h.nx ⟨w.heap.size, 0, 0⟩, .pointer (some ⟨w.heap.size, 0, none⟩), w.alloc (.stringIter st 0), ?_, ?_, ?_⟩
    · simp [Instr.range, run_und hD hu, newObj, Sem.run]
    · exact VR.ptr (e := ⟨w.heap.size, 0, 0⟩) 0 (Emb.upd_same _ _ _)
    · exact (Post.new s hn ⟨w.heap.size, 0, 0⟩ (.siter st 0) _ rfl rfl ⟨heap_alloc_new w _, s.base, rfl⟩).weaken (h.new_sub _) (Nat.le_refl _)
  · simp at he
def evNext (x : AV) (isString : Bool) (h : H) : Option (AV × H) :=
  match x, isString with
  | .ptr id 0, true =>
    match h.get id with
    | some (.siter s pos) =>
      bif Nat.ble s.size pos then some (.tuple [.bool false], h)
      else some (.tuple [.bool true, .int .i64 pos, .int .i32 (Utf8.decode s pos).1], h.put id (some (.siter s (pos + (Utf8.decode s pos).2))))
    | _ => none
  | _, _ => none
theorem evNext_ok {P : Program} {N0 : Nat} {ρ : Emb} {h h' : H} {w : World} {ty : TypeId} {x r : AV} {a : Value} {st : Bool} (s : Sim N0 ρ h.get w) (hx : VR ρ x a) (he : evNext x st h = some (r, h')) :
    ROk P N0 ρ h.get h.nx w (Instr.next a st ty) r h'.get h'.nx := by
  unfold evNext at he
  split at he
  · rename_i id
    split at he
    · rename_i str pos hg
      obtain ⟨e, he', ho⟩ := s.obj _ _ hg
      have hlt := ho.lt
      obtain ⟨hb, hge, hb0⟩ := ho
      cases hx with
      | ptr _ hid =>
        rename_i e2
        rw [hid] at he'; cases he'
        have hgo : (getObj e.blk).run P w = .ok (.stringIter str pos) w := by simp [getObj, Sem.run, hb]
        have haddr : (⟨e.blk, e.base + 0, none⟩ : Addr) = ⟨e.blk, 0, none⟩ := by rw [hb0]
        rw [haddr]
        cases q : Nat.ble str.size pos with
        | true =>
          simp only [q, cond_true, Option.some.injEq, Prod.mk.injEq] at he
          obtain ⟨rfl, rfl⟩ := he
          have hle := Nat.le_of_ble_eq_true q
          refine .pure s (.tuple #[.bool false]) ?_ (.tuple (vs := [.bool false]) (.cons (.bool _) .nil))
          simp [Instr.next, hgo, show ¬ pos < str.size by omega]
        | false =>
          simp only [q, cond_false, Option.some.injEq, Prod.mk.injEq] at he
          obtain ⟨rfl, rfl⟩ := he
          have hl : pos < str.size := by
            rcases Nat.lt_or_ge pos str.size with h1 | h1
            · exact h1
            · rw [Nat.ble_eq_true_of_le h1] at q; cases q
          refine ⟨ρ, _, w.putObj e.blk (.stringIter str (pos + (Utf8.decode str pos).2)), ?_, .tuple (vs := [.bool true, goInt pos, .int .i32 (Utf8.decode str pos).1]) (.cons (.bool _) (.cons (.int _ _) (.cons (.int _ _) .nil))), ?_⟩
          · simp [Instr.next, hgo, hl, setObj, Sem.run, hb, World.putObj]
          · exact (Post.block (nx := h.nx) s hg hid rfl hlt (o' := .siter str (pos + (Utf8.decode str pos).2)) rfl _ fun w' hw' => ⟨hw', hge, hb0⟩).weaken (h.put_sub _ _) (Nat.le_refl _)
    · simp at he
  · simp at he
end Go.Rx
