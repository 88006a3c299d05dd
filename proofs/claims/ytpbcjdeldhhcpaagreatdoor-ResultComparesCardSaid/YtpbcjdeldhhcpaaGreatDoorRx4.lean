import Derived.Test.YtpbcjdeldhhcpaaGreatDoorRx3
import Derived.Laws.IdiomArrays
import Derived.IntWalk
import Derived.Laws.Strings
set_option linter.unusedVariables false
set_option linter.unusedSimpArgs false
set_option linter.unusedSectionVars false
noncomputable section
namespace Go.Rx
open Go

/-! ### 12. Operations that look at no memory are run by the model itself -/
def pureRun {α : Type} (P : Program) : Sem α → Option α
  | .pure a => some a
  | .program k => pureRun P (k P)
  | .mark _ k => pureRun P k
  | _ => none
theorem pureRun_run {α : Type} {P : Program} {w : World} {a : α} : ∀ {s : Sem α}, pureRun P s = some a → s.run P w = .ok a w := by
  intro s
  induction s with
  | pure b => intro h; simp only [pureRun, Option.some.injEq] at h; subst h; rfl
  | program k ih => intro h; exact ih P h
  | mark m k ih => intro h; exact ih h
  | _ => intro h; simp [pureRun] at h
def evPure (P : Program) (s : Sem Value) : Option AV :=
  match pureRun P s with
  | some v => some (ofVal v)
  | none => none
theorem evPure_ok {P : Program} {N0 : Nat} {ρ : Emb} {h : Hp} {nx : Nat} {w : World} {s : Sem Value} {r : AV} (sim : Sim N0 ρ h w) (he : evPure P s = some r) : ROk P N0 ρ h nx w s r h nx := by
  unfold evPure at he
  split at he
  · rename_i v hv
    simp only [Option.some.injEq] at he
    subst he
    exact .pure sim v (pureRun_run hv) (ofVal_rel ρ v)
  · simp at he

/-! ### 13. Operators -/
def isNilTest : AV → AV → Option Bool
  | .slice _ _ _ _, .nils => some false
  | .nils, .slice _ _ _ _ => some false
  | .map _, .nilm => some false
  | .nilm, .map _ => some false
  | .ptr _ _, .nilp => some false
  | .nilp, .ptr _ _ => some false
  | .func _ _ _, .nilf => some false
  | .nilf, .func _ _ _ => some false
  | _, _ => none
def nilKind : TypeDesc → AV → Bool
  | .slice _, .nils => true
  | .slice _, .slice _ _ _ _ => true
  | .map _ _, .nilm => true
  | .map _ _, .map _ => true
  | .pointer _, .nilp => true
  | .pointer _, .ptr _ _ => true
  | .func _ _ _, .nilf => true
  | .func _ _ _, .func _ _ _ => true
  | _, _ => false
def evNil (D : Tab) (op : BinOp) (t : TypeId) (x y : AV) : Option AV :=
  match isNilTest x y, D.und t with
  | some b, some d =>
    bif nilKind d x then bif nilKind d y then
      match op with
      | .eql => some (.bool b)
      | .neq => some (.bool !b)
      | _ => none
    else none else none
  | _, _ => none
def evBinS (P : Program) (D : Tab) (op : BinOp) (t : TypeId) (X Y : Operand) (x y : AV) : Option AV :=
  match x.val, y.val with
  | some a, some b => evPure P (do eqGuard op t X Y a b; binOp op t a b)
  | _, _ => evNil D op t x y

theorem equalIn_nil {D : Tab} {P : Program} (hD : D.Ok P) {ρ : Emb} {w : World} {t : TypeId} {d : TypeDesc} {x y : AV} {a b : Value} {r : Bool} (hx : VR ρ x a) (hy : VR ρ y b) (hr : isNilTest x y = some r) (hd : D.und t = some d) (h1 : nilKind d x = true) (h2 : nilKind d y = true) (n : Nat) :
    (Op.equalIn (n + 1) t a b).run P w = .ok r w := by
  have hu := run_und hD (w := w) hd
  unfold isNilTest at hr
  split at hr <;> simp only [Option.some.injEq, reduceCtorEq] at hr <;> subst hr <;> cases hx <;> cases hy <;> cases d <;> first
    | exact absurd (show false = true from h1) Bool.false_ne_true
    | exact absurd (show false = true from h2) Bool.false_ne_true
    | (simp only [Op.equalIn, Sem.run_bind, hu, Result.andThen_ok]; rfl)
theorem equal_nil {D : Tab} {P : Program} (hD : D.Ok P) {ρ : Emb} {w : World} {t : TypeId} {d : TypeDesc} {x y : AV} {a b : Value} {r : Bool} (hx : VR ρ x a) (hy : VR ρ y b) (hr : isNilTest x y = some r) (hd : D.und t = some d) (h1 : nilKind d x = true) (h2 : nilKind d y = true) :
    (Op.equal t a b).run P w = .ok r w := equalIn_nil hD hx hy hr hd h1 h2 9999

theorem evBinS_ok {D : Tab} {P : Program} (hD : D.Ok P) {N0 : Nat} {ρ : Emb} {h : Hp} {nx : Nat} {w : World} {op : BinOp} {t : TypeId} {X Y : Operand} {x y r : AV} {a b : Value} (s : Sim N0 ρ h w) (hx : VR ρ x a) (hy : VR ρ y b) (he : evBinS P D op t X Y x y = some r) :
    ROk P N0 ρ h nx w (do eqGuard op t X Y a b; binOp op t a b) r h nx := by
  unfold evBinS at he
  split at he
  · rename_i a' b' ha hb
    have e1 := AV.val_rel hx _ ha
    have e2 := AV.val_rel hy _ hb
    subst e1 e2
    exact evPure_ok s he
  · unfold evNil at he
    split at he
    case h_2 => simp at he
    rename_i q d hq hd
    cases h1 : nilKind d x with
    | false => simp [h1] at he
    | true =>
      cases h2 : nilKind d y with
      | false => simp [h1, h2] at he
      | true =>
        simp only [h1, h2, cond_true] at he
        have heq := equal_nil hD (w := w) hx hy hq hd h1 h2
        have hg : ∀ op', (op' = BinOp.eql ∨ op' = BinOp.neq) → (eqGuard op' t X Y a b).run P w = .ok () w := by
          intro op' hop
          unfold isNilTest at hq
          split at hq <;> simp only [Option.some.injEq, reduceCtorEq] at hq <;> cases hx <;> cases hy <;> rcases hop with rfl | rfl <;> rfl
        have hb1 : (binOp .eql t a b).run P w = .ok (.bool q) w := by
          unfold isNilTest at hq
          split at hq <;> simp only [Option.some.injEq, reduceCtorEq] at hq <;> subst hq <;> cases hx <;> cases hy <;> (simp only [binOp, Sem.run_bind, heq, Result.andThen_ok]; rfl)
        have hb2 : (binOp .neq t a b).run P w = .ok (.bool !q) w := by
          unfold isNilTest at hq
          split at hq <;> simp only [Option.some.injEq, reduceCtorEq] at hq <;> subst hq <;> cases hx <;> cases hy <;> (simp only [binOp, Sem.run_bind, heq, Result.andThen_ok]; rfl)
        split at he
        · simp only [Option.some.injEq] at he; subst he
          exact .pure s (.bool q) (by rw [Sem.run_bind, hg _ (.inl rfl), Result.andThen_ok, hb1]) (.bool _)
        · simp only [Option.some.injEq] at he; subst he
          exact .pure s (.bool !q) (by rw [Sem.run_bind, hg _ (.inr rfl), Result.andThen_ok, hb2]) (.bool _)
        · simp at he


/-! The operators that come most often, the short way. -/
def kEq : IntKind → IntKind → Bool
  | .i8, .i8 => true
  | .i16, .i16 => true
  | .i32, .i32 => true
  | .i64, .i64 => true
  | .u8, .u8 => true
  | .u16, .u16 => true
  | .u32, .u32 => true
  | .u64, .u64 => true
  | _, _ => false
def isI64 : IntKind → Bool
  | .i64 => true
  | _ => false
def inI : Int → Bool
  | .ofNat n => Nat.ble n 9223372036854775807
  | .negSucc n => Nat.ble n 9223372036854775807
def eqI : Int → Int → Bool
  | .ofNat a, .ofNat b => Nat.beq a b
  | .negSucc a, .negSucc b => Nat.beq a b
  | _, _ => false
def leI : Int → Int → Bool
  | .ofNat a, .ofNat b => Nat.ble a b
  | .negSucc a, .negSucc b => Nat.ble b a
  | .negSucc _, .ofNat _ => true
  | .ofNat _, .negSucc _ => false
def putI (k : IntKind) (v : Int) : Option AV := bif isI64 k then bif inI v then some (.int k v) else none else none
def fastI (op : BinOp) (k : IntKind) (a b : Int) : Option AV :=
  match op with
  | .add => putI k (Int.add a b)
  | .sub => putI k (Int.sub a b)
  | .mul => putI k (Int.mul a b)
  | .eql => some (.bool (eqI a b))
  | .neq => some (.bool (!(eqI a b)))
  | .lss => some (.bool (!(leI b a)))
  | .leq => some (.bool (leI a b))
  | .gtr => some (.bool (!(leI a b)))
  | .geq => some (.bool (leI b a))
  | _ => none
def bsEq : List UInt8 → List UInt8 → Bool
  | [], [] => true
  | a :: l, b :: m => bif Nat.beq a.toNat b.toNat then bsEq l m else false
  | _, _ => false
def fastS (op : BinOp) (a b : ByteArray) : Option AV :=
  match op with
  | .eql => some (.bool (bsEq a.data.toList b.data.toList))
  | .neq => some (.bool (!(bsEq a.data.toList b.data.toList)))
  | _ => none
def fastBin (op : BinOp) (x y : AV) : Option AV :=
  match x, y with
  | .int k a, .int k' b => bif kEq k k' then fastI op k a b else none
  | .str a, .str b => fastS op a b
  | _, _ => none
def evBin (P : Program) (D : Tab) (op : BinOp) (t : TypeId) (X Y : Operand) (x y : AV) : Option AV :=
  match fastBin op x y with
  | some r => some r
  | none => evBinS P D op t X Y x y

theorem kEq_eq {k k' : IntKind} (h : kEq k k' = true) : k = k' := by cases k <;> cases k' <;> first | rfl | cases h
theorem eqI_iff (a b : Int) : eqI a b = decide (a = b) := by
  rw [Bool.eq_iff_iff]
  cases a <;> cases b <;> simp [eqI, Nat.beq_eq] <;> omega
theorem leI_iff (a b : Int) : leI a b = decide (a ≤ b) := by
  rw [Bool.eq_iff_iff]
  cases a <;> cases b <;> simp [leI] <;> omega
theorem inI_spec {v : Int} (h : inI v = true) : -9223372036854775808 ≤ v ∧ v ≤ 9223372036854775807 := by
  cases v with
  | ofNat n =>
    have h1 := Nat.le_of_ble_eq_true h
    have h2 : (Int.ofNat n) = (n : Int) := rfl
    rw [h2]; omega
  | negSucc n => have := Nat.le_of_ble_eq_true h; omega
theorem bsEq_iff : ∀ (l m : List UInt8), bsEq l m = (l == m)
  | [], [] => rfl
  | [], _ :: _ => rfl
  | _ :: _, [] => rfl
  | a :: l, b :: m => by
    rw [bsEq, bsEq_iff l m]
    by_cases h : a = b
    · subst h; simp
    · have : Nat.beq a.toNat b.toNat = false := by
        cases hb : Nat.beq a.toNat b.toNat with
        | false => rfl
        | true => exact absurd (UInt8.toNat_inj.1 (Nat.eq_of_beq_eq_true hb)) h
      rw [this]
      simp [h]
theorem putI_spec {k : IntKind} {v : Int} {r : AV} (h : putI k v = some r) : k = .i64 ∧ r = .int .i64 v ∧ IntKind.i64.wrap v = v := by
  unfold putI at h
  cases q1 : isI64 k with
  | false => rw [q1] at h; cases h
  | true =>
    cases q2 : inI v with
    | false => rw [q1, q2] at h; cases h
    | true =>
      have hk : k = .i64 := by cases k <;> first | rfl | cases q1
      subst hk
      simp only [q1, q2, cond_true, Option.some.injEq] at h
      exact ⟨rfl, h.symm, Go.IntWalk.i64_in v (inI_spec q2)⟩
theorem beq_dec (a b : Int) : (a == b) = decide (a = b) := by rw [Bool.eq_iff_iff]; simp
theorem lt_dec (a b : Int) : decide (a < b) = !decide (b ≤ a) := by rw [Bool.eq_iff_iff]; simp
theorem fastBin_ok {P : Program} {ρ : Emb} {w : World} {op : BinOp} {t : TypeId} {X Y : Operand} {x y r : AV} {a b : Value} (hx : VR ρ x a) (hy : VR ρ y b) (he : fastBin op x y = some r) :
    ∃ v, (do eqGuard op t X Y a b; binOp op t a b).run P w = .ok v w ∧ VR ρ r v := by
  unfold fastBin at he
  split at he
  · rename_i k n k' n'
    cases hq : kEq k k' with
    | false => rw [hq] at he; cases he
    | true =>
      have := kEq_eq hq
      subst this
      simp only [hq, cond_true] at he
      cases hx; cases hy
      unfold fastI at he
      split at he
      · obtain ⟨rfl, rfl, hw⟩ := putI_spec he
        refine ⟨.int .i64 (n + n'), ?_, .int _ _⟩
        have hw : IntKind.i64.wrap (n + n') = n + n' := hw
        simp [eqGuard, binOp, Op.intArith, hw]
      · obtain ⟨rfl, rfl, hw⟩ := putI_spec he
        refine ⟨.int .i64 (n - n'), ?_, .int _ _⟩
        have hw : IntKind.i64.wrap (n - n') = n - n' := hw
        simp [eqGuard, binOp, Op.intArith, hw]
      · obtain ⟨rfl, rfl, hw⟩ := putI_spec he
        refine ⟨.int .i64 (n * n'), ?_, .int _ _⟩
        have hw : IntKind.i64.wrap (n * n') = n * n' := hw
        simp [eqGuard, binOp, Op.intArith, hw]
      all_goals first
        | (cases he; done)
        | (simp only [Option.some.injEq] at he; subst he; refine ⟨_, ?_, .bool _⟩; simp [eqGuard, binOp, Op.intCmp, eqI_iff, leI_iff, bne]; done)
        | (simp only [Option.some.injEq] at he; subst he; refine ⟨_, ?_, .bool _⟩; simp [eqGuard, binOp, Op.intCmp, eqI_iff, leI_iff, bne]; exact beq_dec n n')
        | (simp only [Option.some.injEq] at he; subst he; refine ⟨_, ?_, .bool _⟩; simp [eqGuard, binOp, Op.intCmp, eqI_iff, leI_iff, bne]; exact lt_dec n n')
        | (simp only [Option.some.injEq] at he; subst he; refine ⟨_, ?_, .bool _⟩; simp [eqGuard, binOp, Op.intCmp, eqI_iff, leI_iff, bne]; exact lt_dec n' n)
  · cases hx; cases hy
    rename_i s1 s2
    have e1 : ∀ s : ByteArray, s.toList = s.data.toList := Go.ByteArray.toList_eq
    unfold fastS at he
    split at he
    all_goals first
      | (cases he; done)
      | (simp only [Option.some.injEq] at he; subst he; refine ⟨_, ?_, .bool _⟩; simp [eqGuard, binOp, Op.stringOp, bsEq_iff, e1]; done)
  · cases he
theorem evBin_ok {D : Tab} {P : Program} (hD : D.Ok P) {N0 : Nat} {ρ : Emb} {h : Hp} {nx : Nat} {w : World} {op : BinOp} {t : TypeId} {X Y : Operand} {x y r : AV} {a b : Value} (s : Sim N0 ρ h w) (hx : VR ρ x a) (hy : VR ρ y b) (he : evBin P D op t X Y x y = some r) :
    ROk P N0 ρ h nx w (do eqGuard op t X Y a b; binOp op t a b) r h nx := by
  unfold evBin at he
  split at he
  · rename_i r' hf
    simp only [Option.some.injEq] at he
    subst he
    obtain ⟨v, h1, h2⟩ := fastBin_ok (P := P) (w := w) (t := t) (X := X) (Y := Y) hx hy hf
    exact .pure s v h1 h2
  · exact evBinS_ok hD s hx hy he

def ev1 (P : Program) (f : Value → Sem Value) (x : AV) : Option AV :=
  match x.val with
  | some a => evPure P (f a)
  | none => none
theorem ev1_ok {P : Program} {N0 : Nat} {ρ : Emb} {h : Hp} {nx : Nat} {w : World} {f : Value → Sem Value} {x r : AV} {a : Value} (s : Sim N0 ρ h w) (hx : VR ρ x a) (he : ev1 P f x = some r) : ROk P N0 ρ h nx w (f a) r h nx := by
  unfold ev1 at he
  split at he
  · rename_i a' ha
    have e1 := AV.val_rel hx _ ha
    subst e1
    exact evPure_ok s he
  · simp at he

/-! ### 14. Addresses -/
def evField (D : Tab) (t : TypeId) (x : AV) (f : Nat) : Option AV :=
  match x, D.und t with
  | .ptr id off, some (.struct fs) =>
    match fs[f]? with
    | some fd =>
      match D.info fd.type with
      | some (n, _, _) => bif Nat.ble 1 n then some (.ptr id (off + fd.offset)) else none
      | none => none
    | none => none
  | .vptr vals off, some (.struct fs) =>
    match fs[f]? with
    | some fd =>
      match D.info fd.type with
      | some (n, _, _) => bif Nat.ble 1 n then some (.vptr vals (off + fd.offset)) else none
      | none => none
    | none => none
  | _, _ => none
theorem evField_ok {D : Tab} {P : Program} (hD : D.Ok P) {N0 : Nat} {ρ : Emb} {h : Hp} {nx : Nat} {w : World} {t : TypeId} {x r : AV} {a : Value} {f : Nat} (s : Sim N0 ρ h w) (hx : VR ρ x a) (he : evField D t x f = some r) :
    ROk P N0 ρ h nx w (Instr.fieldAt t a f) r h nx := by
  unfold evField at he
  split at he
  · rename_i id off fs hu
    split at he
    case h_2 => simp at he
    rename_i fd hfd
    split at he
    case h_2 => simp at he
    rename_i n b z hi
    cases h1 : Nat.ble 1 n with
    | false => simp [h1] at he
    | true =>
      simp only [h1, cond_true, Option.some.injEq] at he
      subst he
      have hn := Nat.le_of_ble_eq_true h1
      cases hx with
      | ptr _ hid =>
        rename_i e
        refine .pure s (.pointer (some ⟨e.blk, e.base + (off + fd.offset), none⟩)) ?_ (.ptr _ hid)
        simp [Instr.fieldAt, Instr.sureAddr, run_und hD hu, hfd, fieldPlace, run_size hD hi, show ¬ n = 0 by omega, add_at, Nat.add_assoc]
  · rename_i vals off fs hu
    split at he
    case h_2 => simp at he
    rename_i fd hfd
    split at he
    case h_2 => simp at he
    rename_i n b z hi
    cases h1 : Nat.ble 1 n with
    | false => simp [h1] at he
    | true =>
      simp only [h1, cond_true, Option.some.injEq] at he
      subst he
      have hn := Nat.le_of_ble_eq_true h1
      cases hx with
      | vptr _ hf hx hv =>
        rename_i b' base c et fr
        refine .pure s (.pointer (some ⟨b', base + (off + fd.offset), none⟩)) ?_ (.vptr _ hf hx hv)
        simp [Instr.fieldAt, Instr.sureAddr, run_und hD hu, hfd, fieldPlace, run_size hD hi, show ¬ n = 0 by omega, add_at, Nat.add_assoc]
  · simp at he

/-- A part of several cells, as a field or an element is taken out of a value. -/
def evPart (D : Tab) (t : TypeId) (cs : List AV) (off : Nat) : Option AV :=
  match D.isAgg t with
  | some true =>
    match D.info t with
    | some (n, _, _) => some (.agg ((cs.drop off).take n))
    | none => none
  | some false => cs[off]?
  | none => none
theorem evPart_ok {D : Tab} {P : Program} (hD : D.Ok P) {ρ : Emb} {w : World} {t : TypeId} {cs : List AV} {vs : List Value} {off : Nat} {r : AV} (hr : VRs ρ cs vs) (he : evPart D t cs off = some r) :
    ∃ x, (part t vs.toArray off).run P w = .ok x w ∧ VR ρ r x := by
  unfold evPart at he
  split at he
  · rename_i ha
    split at he
    · rename_i n b z hi
      simp only [Option.some.injEq] at he
      subst he
      refine ⟨.agg (vs.toArray.extract off (off + n)), by simp [part, run_isAgg hD ha, run_size hD hi], ?_⟩
      have : vs.toArray.extract off (off + n) = ((vs.drop off).take n).toArray := by
        simp [List.drop_take]
      rw [this]
      exact .agg ((hr.drop off).take n)
    · simp at he
  · rename_i ha
    obtain ⟨y, hy, hry⟩ := hr.get _ _ he
    exact ⟨y, by simp [part, run_isAgg hD ha, hy], hry⟩
  · simp at he
def evFieldOf (D : Tab) (t : TypeId) (x : AV) (f : Nat) : Option AV :=
  match x, D.und t with
  | .agg cs, some (.struct fs) =>
    match fs[f]? with
    | some fd => evPart D fd.type cs fd.offset
    | none => none
  | _, _ => none
theorem evFieldOf_ok {D : Tab} {P : Program} (hD : D.Ok P) {N0 : Nat} {ρ : Emb} {h : Hp} {nx : Nat} {w : World} {t : TypeId} {x r : AV} {a : Value} {f : Nat} (s : Sim N0 ρ h w) (hx : VR ρ x a) (he : evFieldOf D t x f = some r) :
    ROk P N0 ρ h nx w (Instr.field t a f) r h nx := by
  unfold evFieldOf at he
  split at he
  case h_2 => simp at he
  rename_i cs fs hu
  split at he
  case h_2 => simp at he
  rename_i fd hfd
  cases hx with
  | agg hr =>
    obtain ⟨y, hy, hry⟩ := evPart_ok hD (w := w) hr he
    exact .pure s y (by simp [Instr.field, run_und hD hu, hfd, asAgg, hy]) hry

def natOf : AV → Option Nat
  | .int _ (.ofNat n) => some n
  | _ => none
theorem natOf_rel {ρ : Emb} {x : AV} {a : Value} {n : Nat} (hx : VR ρ x a) (h : natOf x = some n) : ∃ k, a = .int k (n : Int) := by
  unfold natOf at h
  split at h
  · simp only [Option.some.injEq] at h; subst h
    cases hx
    exact ⟨_, rfl⟩
  · simp at h
def evIndexAddr (D : Tab) (t : TypeId) (x i : AV) : Option AV :=
  match natOf i, x, D.und t with
  | some n, .slice id off len esz, some (.slice e) =>
    match D.info e with
    | some (m, _, _) => bif Nat.ble len n then none else bif Nat.beq m esz then some (.ptr id (off + n * m)) else none
    | none => none
  | some n, .ptr id off, some (.array len e) =>
    match D.info e with
    | some (m, _, _) => bif Nat.ble len n then none else some (.ptr id (off + n * m))
    | none => none
  | some n, .view vals off len esz, some (.slice e) =>
    match D.info e with
    | some (m, _, _) => bif Nat.ble len n then none else bif Nat.beq m esz then some (.vptr vals (off + n * m)) else none
    | none => none
  | _, _, _ => none
theorem evIndexAddr_ok {D : Tab} {P : Program} (hD : D.Ok P) {N0 : Nat} {ρ : Emb} {h : Hp} {nx : Nat} {w : World} {t : TypeId} {x i r : AV} {a j : Value} (s : Sim N0 ρ h w) (hx : VR ρ x a) (hi : VR ρ i j) (he : evIndexAddr D t x i = some r) :
    ROk P N0 ρ h nx w (Instr.indexAt t a j) r h nx := by
  unfold evIndexAddr at he
  split at he
  · rename_i n id off len esz e hn hu
    obtain ⟨k, rfl⟩ := natOf_rel hi hn
    split at he
    case h_2 => simp at he
    rename_i m b z hm
    cases h1 : Nat.ble len n with
    | true => simp [h1] at he
    | false =>
      cases h2 : Nat.beq m esz with
      | false => simp [h1, h2] at he
      | true =>
        simp only [h1, h2, cond_true, cond_false, Option.some.injEq] at he
        subst he
        have hlt : n < len := by
          rcases Nat.lt_or_ge n len with hl | hl
          · exact hl
          · rw [Nat.ble_eq_true_of_le hl] at h1; cases h1
        cases hx with
        | slice _ _ cap _ hid hl hb =>
          rename_i e'
          refine .pure s (.pointer (some ⟨e'.blk, e'.base + (off + n * m), none⟩)) ?_ (.ptr _ hid)
          have hI : ((n : Int) < (len : Int)) := by omega
          simp [Instr.indexAt, asIntOf, run_und hD hu, hlt, run_size hD hm, add_at, Nat.add_assoc]
        | slice0 a => omega
  · rename_i n id off len e hn hu
    obtain ⟨k, rfl⟩ := natOf_rel hi hn
    split at he
    case h_2 => simp at he
    rename_i m b z hm
    cases h1 : Nat.ble len n with
    | true => simp [h1] at he
    | false =>
      simp only [h1, cond_false, Option.some.injEq] at he
      subst he
      have hlt : n < len := by
        rcases Nat.lt_or_ge n len with hl | hl
        · exact hl
        · rw [Nat.ble_eq_true_of_le hl] at h1; cases h1
      cases hx with
      | ptr _ hid =>
        rename_i e'
        refine .pure s (.pointer (some ⟨e'.blk, e'.base + (off + n * m), none⟩)) ?_ (.ptr _ hid)
        simp [Instr.indexAt, asIntOf, Instr.sureAddr, run_und hD hu, hlt, run_size hD hm, add_at, Nat.add_assoc]
  · rename_i n vals off len esz e hn hu
    obtain ⟨k, rfl⟩ := natOf_rel hi hn
    split at he
    case h_2 => simp at he
    rename_i m b z hm
    cases h1 : Nat.ble len n with
    | true => simp [h1] at he
    | false =>
      cases h2 : Nat.beq m esz with
      | false => simp [h1, h2] at he
      | true =>
        simp only [h1, h2, cond_true, cond_false, Option.some.injEq] at he
        subst he
        have hlt : n < len := by
          rcases Nat.lt_or_ge n len with hl | hl
          · exact hl
          · rw [Nat.ble_eq_true_of_le hl] at h1; cases h1
        cases hx with
        | view _ _ cap _ hf hx hv hl hb =>
          rename_i xs b' base c et fr
          refine .pure s (.pointer (some ⟨b', base + (off + n * m), none⟩)) ?_ (.vptr _ hf hx hv)
          have hI : ((n : Int) < (len : Int)) := by omega
          simp [Instr.indexAt, asIntOf, run_und hD hu, hlt, run_size hD hm, add_at, Nat.add_assoc]
        | view0 a => omega
        | viewN => omega
  · simp at he

def evIndex (P : Program) (D : Tab) (t : TypeId) (x i : AV) : Option AV :=
  match x with
  | .agg cs =>
    match natOf i, D.und t with
    | some n, some (.array len e) =>
      match D.info e with
      | some (m, _, _) => bif Nat.ble len n then none else evPart D e cs (n * m)
      | none => none
    | _, _ => none
  | _ =>
    match x.val, i.val with
    | some a, some j => evPure P (Instr.index t a j)
    | _, _ => none
theorem evIndex_ok {D : Tab} {P : Program} (hD : D.Ok P) {N0 : Nat} {ρ : Emb} {h : Hp} {nx : Nat} {w : World} {t : TypeId} {x i r : AV} {a j : Value} (s : Sim N0 ρ h w) (hx : VR ρ x a) (hi : VR ρ i j) (he : evIndex P D t x i = some r) :
    ROk P N0 ρ h nx w (Instr.index t a j) r h nx := by
  unfold evIndex at he
  split at he
  · rename_i cs
    split at he
    case h_2 => simp at he
    rename_i n len e hn hu
    obtain ⟨k, rfl⟩ := natOf_rel hi hn
    split at he
    case h_2 => simp at he
    rename_i m b z hm
    cases h1 : Nat.ble len n with
    | true => simp [h1] at he
    | false =>
      simp only [h1, cond_false] at he
      have hlt : n < len := by
        rcases Nat.lt_or_ge n len with hl | hl
        · exact hl
        · rw [Nat.ble_eq_true_of_le hl] at h1; cases h1
      cases hx with
      | agg hr =>
        obtain ⟨y, hy, hry⟩ := evPart_ok hD (w := w) hr he
        exact .pure s y (by simp [Instr.index, asIntOf, run_und hD hu, hlt, run_size hD hm, hy]) hry
  · split at he
    · rename_i a' j' ha hj
      have e1 := AV.val_rel hx _ ha
      have e2 := AV.val_rel hi _ hj
      subst e1 e2
      exact evPure_ok s he
    · simp at he
end Go.Rx
