import Derived.Test.YtpbcjdeldhhcpaaGreatDoorSx3
set_option linter.unusedVariables false
set_option linter.unusedSimpArgs false
set_option linter.unusedSectionVars false
set_option linter.unusedVariables false
noncomputable section
namespace Go.Rx
open Go

/-! ### S6. The tree is sound: operations -/
theorem evOp_enter {P : Program} {D : Tab} {ρ : Operand → AV} {o : Oper} {h : H} (ho : isV o = false) {r : OpR} (he : evOp P D ρ o h = some r) : (∃ v h', r = .val v h') ∨ ∃ h', r = .skip h' := by
  unfold isV at ho
  unfold evOp at he
  split at he
  all_goals (rename_i hop; first
    | (simp only [Option.some.injEq] at he; subst he; exact .inl ⟨_, _, rfl⟩)
    | (obtain ⟨v, hv, rfl⟩ := valR_some he; exact .inl ⟨_, _, rfl⟩)
    | (obtain ⟨v, h', hv, rfl⟩ := newR_some he; exact .inl ⟨_, _, rfl⟩)
    | (obtain ⟨h', hv, rfl⟩ := skipR_some he; exact .inr ⟨_, rfl⟩)
    | (cases he; done)
    | skip)
  · split at he
    · simp only [Option.some.injEq] at he; subst he; exact .inl ⟨_, _, rfl⟩
    · cases he
  · rename_i c
    simp only [hop] at ho
    unfold evCallee at he
    split at he
    · rename_i f hcal
      simp [hcal] at ho
    · split at he
      · simp only [Option.some.injEq] at he; subst he; exact .inl ⟨_, _, rfl⟩
      · cases he
    · cases he

section
variable {P : Program} {D : Tab} {pin : Nat} {rd : Option Nat} {K : Ex → St → Prop}
abbrev Ok1 (P : Program) (D : Tab) (os : List Oper) (ρ : Operand → AV) (o : Oper) (h : H) (v : AV) (h' : H) : Prop :=
  (∃ r, evOp P D ρ o h = some r ∧ (r = .val v h' ∨ (r = .skip h' ∧ v = .tuple []))) ∨ (∃ f args, evOp P D ρ o h = some (.enter f args) ∧ CRuns P f args h v h' ∧ freeD o.dst os = true)

theorem fast_int {X Y : Operand} {t : TypeId} {op : BinOp} {k1 k2 : IntKind} {a b : Int} {r : AV} (hk : kEq k1 k2 = true) (h : fastI op k1 a b = some r) : evBin P D op t X Y (.int k1 a) (.int k2 b) = some r := by
  have hf : fastBin op (.int k1 a) (.int k2 b) = some r := by rw [fastBin, hk]; exact h
  rw [evBin, hf]
theorem fast_str {X Y : Operand} {t : TypeId} {op : BinOp} {a b : ByteArray} {r : AV} (h : fastS op a b = some r) : evBin P D op t X Y (.str a) (.str b) = some r := by
  have hf : fastBin op (.str a) (.str b) = some r := h
  rw [evBin, hf]
theorem bs_dec (a b : ByteArray) : bsEq a.data.toList b.data.toList = decide (a = b) := by
  rw [bsEq_iff, Bool.eq_iff_iff, beq_iff_eq, decide_eq_true_iff]
  constructor
  · intro h; cases a; cases b; congr 1; exact Array.ext' h
  · rintro rfl; rfl
theorem lt_leI (a b : Int) : (!(leI b a)) = decide (a < b) := by rw [leI_iff, lt_dec]

theorem sBin_ok {op : BinOp} {t : TypeId} {X Y : Operand} {x y : AV} {h : H} {k : AV → H → Tr} (hh : (sBin P D op t X Y x y h k).holds P pin rd K) : ∃ v, evBin P D op t X Y x y = some v ∧ (k v h).holds P pin rd K := by
  unfold sBin at hh
  split at hh
  · rename_i k1 a k2 b
    cases hk : kEq k1 k2 with
    | false => rw [hk] at hh; exact hh.elim
    | true =>
      rw [hk] at hh
      simp only [cond_true] at hh
      split at hh
      · exact ⟨_, fast_int hk (show some (AV.bool (eqI a b)) = some (.bool (decide (a = b))) by rw [eqI_iff]), hh⟩
      · exact ⟨_, fast_int hk (show some (AV.bool (!(eqI a b))) = some (.bool (!decide (a = b))) by rw [eqI_iff]), hh⟩
      · exact ⟨_, fast_int hk (show some (AV.bool (!(leI b a))) = some (.bool (decide (a < b))) by rw [lt_leI]), hh⟩
      · exact ⟨_, fast_int hk (show some (AV.bool (leI a b)) = some (.bool (decide (a ≤ b))) by rw [leI_iff]), hh⟩
      · exact ⟨_, fast_int hk (show some (AV.bool (!(leI a b))) = some (.bool (decide (b < a))) by rw [lt_leI]), hh⟩
      · exact ⟨_, fast_int hk (show some (AV.bool (leI b a)) = some (.bool (decide (b ≤ a))) by rw [leI_iff]), hh⟩
      · obtain ⟨v, hv, h2⟩ := hh; exact ⟨v, hv, h2⟩
  · split at hh
    · exact ⟨_, fast_str (by simp only [fastS]; rw [bs_dec]), hh⟩
    · exact ⟨_, fast_str (by simp only [fastS]; rw [bs_dec]), hh⟩
    · obtain ⟨v, hv, h2⟩ := hh; exact ⟨v, hv, h2⟩
  · obtain ⟨v, hv, h2⟩ := hh; exact ⟨v, hv, h2⟩

theorem pure_und {α : Type} {t : TypeId} {d : TypeDesc} (hp : P.underlying t = some d) (f : TypeDesc → Sem α) : pureRun P (underlying t >>= f) = pureRun P (f d) := by
  show pureRun P (Sem.bind (Sem.bind program _) f) = _
  simp [program, Sem.bind, pureRun, hp, pure]
theorem len_str (hD : D.Ok P) {ts : Array TypeId} {ty t : TypeId} {s : ByteArray} {h : H} (h0 : ts[0]? = some t) (hu : D.und t = some .string) : evLen P D ts ty (.str s) h = some (.int .i64 s.size) := by
  have : pureRun P (Builtin.len_ ts ty #[.string s]) = some (.int .i64 s.size) := by
    have hp := hD.und t _ hu
    simp only [Builtin.len_, h0]
    refine (pure_und hp _).trans ?_
    rfl
  simp [evLen, h0, evPure, this, ofVal, ofVal1]
theorem sBui_ok (hD : D.Ok P) {b : Builtin} {ts : Array TypeId} {ty : TypeId} {args : List AV} {h : H} {k : AV → H → Tr} (hh : (sBui P D b ts ty args h k).holds P pin rd K) : ∃ v h', evBuiltin P D b ts ty args h = some (v, h') ∧ (k v h').holds P pin rd K := by
  unfold sBui at hh
  split at hh
  · split at hh
    · rename_i t ht
      split at hh
      · rename_i hu
        exact ⟨_, h, by simp only [evBuiltin, len_str hD ht hu], hh⟩
      · exact hh.elim
    · exact hh.elim
  · split at hh
    · rename_i t ht
      split at hh
      · rename_i e hu
        exact ⟨_, h, by simp only [evBuiltin, evLen, ht, hu], hh⟩
      · exact hh.elim
    · exact hh.elim
  · split at hh
    · rename_i t ht
      split at hh
      · rename_i e hu
        exact ⟨_, h, by simp only [evBuiltin, evLen, ht, hu], hh⟩
      · exact hh.elim
    · exact hh.elim
  · exact hh
theorem sOp_ok (hD : D.Ok P) {os : List Oper} {ρ : Operand → AV} {o : Oper} {h : H} {k : AV → H → Tr} (hh : (sOp P D os ρ o h k).holds P pin rd K) : ∃ v h', (k v h').holds P pin rd K ∧ Ok1 P D os ρ o h v h' := by
  have V : ∀ {r : Option AV}, evOp P D ρ o h = valR h r → (tV r h k).holds P pin rd K → ∃ v h', (k v h').holds P pin rd K ∧ Ok1 P D os ρ o h v h' := fun he ⟨v, hv, h2⟩ => ⟨v, h, h2, .inl ⟨.val v h, by rw [he, hv]; rfl, .inl rfl⟩⟩
  have N : ∀ {r : Option (AV × H)}, evOp P D ρ o h = newR r → (Tr.exH r k).holds P pin rd K → ∃ v h', (k v h').holds P pin rd K ∧ Ok1 P D os ρ o h v h' := fun he ⟨v, h', hv, h2⟩ => ⟨v, h', h2, .inl ⟨.val v h', by rw [he, hv]; rfl, .inl rfl⟩⟩
  have U : ∀ {r : Option H}, evOp P D ρ o h = skipR r → (Tr.exU r fun h' => k (.tuple []) h').holds P pin rd K → ∃ v h', (k v h').holds P pin rd K ∧ Ok1 P D os ρ o h v h' := fun he ⟨h', hv, h2⟩ => ⟨.tuple [], h', h2, .inl ⟨.skip h', by rw [he, hv]; rfl, .inr ⟨rfl, rfl⟩⟩⟩
  have W : ∀ {v : AV}, evOp P D ρ o h = some (.val v h) → (k v h).holds P pin rd K → ∃ v h', (k v h').holds P pin rd K ∧ Ok1 P D os ρ o h v h' := fun he h2 => ⟨_, h, h2, .inl ⟨_, he, .inl rfl⟩⟩
  unfold sOp at hh
  simp only [fA_eq, fHL_eq] at hh
  unfold evOp at V N U W
  cases hop : o.op <;> simp only [hop] at hh V N U W <;> first
    | exact W rfl hh
    | exact V rfl hh
    | exact N rfl hh
    | exact U rfl hh
    | exact hh.elim
    | skip
  case load t a =>
    split at hh
    · exact V rfl hh
    · exact V rfl hh
  case pick c a b =>
    split at hh
    · rename_i hc; refine W ?_ hh; rw [hc]; rfl
    · rename_i hc; refine W ?_ hh; rw [hc]; rfl
    · exact hh.elim
  case binOp op t x y yt =>
    obtain ⟨v, hv, h2⟩ := sBin_ok hh
    refine W ?_ h2
    rw [hv]; rfl
  case unOp op t x =>
    split at hh
    · rename_i b hb
      refine W ?_ hh
      rw [hb]
      cases b <;> rfl
    · exact V rfl hh
  case slice t x lo hi mx =>
    cases mx with
    | none => exact V rfl hh
    | some m => exact hh.elim
  case call c =>
    split at hh
    · rename_i f hcal
      split at hh
      · rename_i g first cap hv
        cases hfd : freeD o.dst os with
        | false => rw [hfd] at hh; exact hh.elim
        | true =>
          rw [hfd] at hh
          obtain ⟨hk, v, h', h1, h2⟩ := hh
          refine ⟨v, h', h2, .inr ⟨g, _, ?_, h1, hfd⟩⟩
          unfold evOp
          simp only [hop, evCallee, hcal, hv, hk, cond_true]
      · exact hh.elim
    · rename_i b hcal
      obtain ⟨v, h', h1, h2⟩ := sBui_ok hD hh
      refine ⟨v, h', h2, .inl ⟨.val v h', ?_, .inl rfl⟩⟩
      unfold evOp
      simp only [hop, evCallee, hcal, h1]
    · exact hh.elim
end
end Go.Rx
