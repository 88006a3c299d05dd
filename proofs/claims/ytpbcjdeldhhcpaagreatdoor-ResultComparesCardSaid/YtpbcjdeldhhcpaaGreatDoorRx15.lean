import Derived.Test.YtpbcjdeldhhcpaaGreatDoorRx14
set_option linter.unusedVariables false
set_option linter.unusedSimpArgs false
set_option linter.unusedSectionVars false
noncomputable section
namespace Go.Rx
open Go

/-! ### 30. Regions that draw their order: what reads floats, all else waits for one another -/
mutual
def AV.beq : AV → AV → Bool
  | .bool a, .bool b => a == b
  | .int k n, .int k' n' => bif decide (k = k') then decide (n = n') else false
  | .str a, .str b => decide (a.data.toList = b.data.toList)
  | .ptr i o, .ptr i' o' => bif Nat.beq i i' then Nat.beq o o' else false
  | .nilp, .nilp => true
  | .slice i o l e, .slice i' o' l' e' => bif Nat.beq i i' then bif Nat.beq o o' then bif Nat.beq l l' then Nat.beq e e' else false else false else false
  | .nils, .nils => true
  | .map i, .map i' => Nat.beq i i'
  | .nilm, .nilm => true
  | .func f a b, .func g c d => bif decide (f = g) then bif AV.beqs a c then AV.beqs b d else false else false
  | .nilf, .nilf => true
  | .agg a, .agg b => AV.beqs a b
  | .tuple a, .tuple b => AV.beqs a b
  | _, _ => false
def AV.beqs : List AV → List AV → Bool
  | [], [] => true
  | a :: as, b :: bs => bif AV.beq a b then AV.beqs as bs else false
  | _, _ => false
end
theorem bif_true {a b : Bool} (h : (bif a then b else false) = true) : a = true ∧ b = true := by cases a <;> simp_all
mutual
theorem AV.beq_eq : ∀ {a b : AV}, AV.beq a b = true → a = b
  | .bool a, .bool b, h => by simp only [AV.beq, beq_iff_eq] at h; rw [h]
  | .int k n, .int k' n', h => by
    rw [AV.beq] at h
    obtain ⟨h1, h2⟩ := bif_true h
    rw [of_decide_eq_true h1, of_decide_eq_true h2]
  | .str a, .str b, h => by
    rw [AV.beq] at h
    have h1 := of_decide_eq_true h
    cases a; cases b
    congr 2
    exact Array.ext' h1
  | .ptr i o, .ptr i' o', h => by
    rw [AV.beq] at h
    obtain ⟨h1, h2⟩ := bif_true h
    rw [Nat.eq_of_beq_eq_true h1, Nat.eq_of_beq_eq_true h2]
  | .nilp, .nilp, _ => rfl
  | .slice i o l e, .slice i' o' l' e', h => by
    rw [AV.beq] at h
    obtain ⟨h1, h⟩ := bif_true h
    obtain ⟨h2, h⟩ := bif_true h
    obtain ⟨h3, h4⟩ := bif_true h
    rw [Nat.eq_of_beq_eq_true h1, Nat.eq_of_beq_eq_true h2, Nat.eq_of_beq_eq_true h3, Nat.eq_of_beq_eq_true h4]
  | .nils, .nils, _ => rfl
  | .map i, .map i', h => by rw [AV.beq] at h; rw [Nat.eq_of_beq_eq_true h]
  | .nilm, .nilm, _ => rfl
  | .func f a b, .func g c d, h => by
    rw [AV.beq] at h
    obtain ⟨h1, h⟩ := bif_true h
    obtain ⟨h2, h3⟩ := bif_true h
    rw [of_decide_eq_true h1, AV.beqs_eq h2, AV.beqs_eq h3]
  | .nilf, .nilf, _ => rfl
  | .agg a, .agg b, h => by rw [AV.beq] at h; rw [AV.beqs_eq h]
  | .tuple a, .tuple b, h => by rw [AV.beq] at h; rw [AV.beqs_eq h]
theorem AV.beqs_eq : ∀ {a b : List AV}, AV.beqs a b = true → a = b
  | [], [], _ => rfl
  | a :: as, b :: bs, h => by
    rw [AV.beqs] at h
    obtain ⟨h1, h2⟩ := bif_true h
    rw [AV.beq_eq h1, AV.beqs_eq h2]
end

inductive Kd where
  | pure
  | read
  | chain
def kdOf (o : Oper) : Kd :=
  match o.op with
  | .move _ => .pure
  | .assign _ => .pure
  | .pick _ _ _ => .pure
  | .build _ _ => .pure
  | .binOp _ _ _ _ _ => .pure
  | .unOp _ _ _ => .pure
  | .convert _ _ _ => .pure
  | .makeFunc _ _ _ => .pure
  | .fieldAddr _ _ _ => .pure
  | .field _ _ _ => .pure
  | .indexAddr _ _ _ => .pure
  | .index _ _ _ => .pure
  | .extract _ _ => .pure
  | .nilCheck _ => .pure
  | .load _ _ => .read
  | .lookup _ _ _ _ => .read
  | .slice _ _ _ _ _ => .read
  | .call c => match c.callee with
    | .builtin .len => .read
    | .builtin .min => .read
    | .builtin .max => .read
    | _ => .chain
  | _ => .chain
def isChain (o : Oper) : Bool := match kdOf o with
  | .chain => true
  | _ => false

def evP (P : Program) (D : Tab) (ρ : Operand → AV) (o : Oper) (h : H) : Option AV :=
  match o.op with
  | .move x => some (ρ x)
  | .assign x => some (ρ x)
  | .pick c a b => match ρ c with
    | .bool t => some (bif t then ρ a else ρ b)
    | _ => none
  | .build t ps => evBuild D t (ps.toList.map fun (i, x) => (i, ρ x))
  | .binOp op t x y _ => evBin P D op t x y (ρ x) (ρ y)
  | .unOp op _ x => ev1 P (Op.unary op) (ρ x)
  | .convert s d x => ev1 P (convert s d) (ρ x)
  | .makeFunc fn first cap => some (.func fn (first.toList.map ρ) (cap.toList.map ρ))
  | .fieldAddr s x f => evField D s (ρ x) f
  | .field t x f => evFieldOf D t (ρ x) f
  | .indexAddr t x i => evIndexAddr D t (ρ x) (ρ i)
  | .index t x i => evIndex P D t (ρ x) (ρ i)
  | .extract x i => evExtract (ρ x) i
  | .nilCheck x => evNilCheck (ρ x)
  | .load t a => evLoad D t (ρ a) h
  | .lookup t m k ok => evLookup D t (ρ m) (ρ k) ok h
  | .slice t x lo hi none => evSlice P D t (ρ x) (lo.map ρ) (hi.map ρ) h
  | .call c => match c.callee with
    | .builtin b => match evBuiltin P D b c.argTypes o.type (c.args.toList.map ρ) h with
      | some (v, _) => some v
      | none => none
    | _ => none
  | _ => none
def readB : Builtin → Bool
  | .len => true
  | .min => true
  | .max => true
  | _ => false
theorem evBuiltin_read {P : Program} {D : Tab} {b : Builtin} {ts : Array TypeId} {ty : TypeId} {args : List AV} {h h' : H} {v : AV} (hb : readB b = true) (he : evBuiltin P D b ts ty args h = some (v, h')) : h' = h := by
  unfold evBuiltin at he
  cases b <;> first
    | exact Bool.noConfusion (show false = true from hb)
    | skip
  all_goals
    split at he <;> first
      | contradiction
      | (split at he <;> cases he <;> rfl)
      | (cases he; done)
      | skip
    all_goals (split at he <;> first
      | (split at he <;> cases he <;> rfl)
      | (cases he; done))
theorem evOp_P {P : Program} {D : Tab} {ρ : Operand → AV} {o : Oper} (hk : isChain o = false) (h : H) : evOp P D ρ o h = valR h (evP P D ρ o h) := by
  unfold isChain kdOf at hk
  unfold evOp evP
  cases hop : o.op <;> rw [hop] at hk <;> first
    | rfl
    | exact Bool.noConfusion (show true = false from hk)
    | skip
  case pick c a b => cases hc : ρ c <;> simp only [hc] <;> rfl
  case slice t x lo hi mx => cases mx <;> rfl
  case call c =>
    simp only [evCallee]
    cases hc : c.callee with
    | value f => simp [hc] at hk
    | invoke r m => simp [hc] at hk
    | builtin b =>
      have hb : readB b = true := by
        simp only [hc] at hk
        cases b <;> first
          | rfl
          | exact Bool.noConfusion (show true = false from hk)
      simp only
      cases he : evBuiltin P D b c.argTypes o.type (c.args.toList.map ρ) h with
      | none => rfl
      | some p => obtain ⟨v, h'⟩ := p; rw [evBuiltin_read hb he]; rfl
theorem evP_heap {P : Program} {D : Tab} {ρ : Operand → AV} {o : Oper} (hk : kdOf o = .pure) (h h2 : H) : evP P D ρ o h = evP P D ρ o h2 := by
  unfold kdOf at hk
  unfold evP
  cases hop : o.op <;> rw [hop] at hk <;> first
    | (cases hk; done)
    | rfl
    | skip
  rename_i c
  simp only at hk
  split at hk <;> cases hk
theorem evStep1_float {P : Program} {D : Tab} {call : KCall} {round : KRound} {all : List Oper} {o : Oper} {tm : T AV} {h : H} (hk : isChain o = false) :
    evStep1 P D call round all o tm h = match wantedA all tm o with
      | some true => (match evP P D (evalO tm) o h with | some v => some (v, h) | none => none)
      | some false => some (.tuple [], h)
      | none => none := by
  unfold evStep1
  rw [evOp_P hk]
  cases wantedA all tm o with
  | none => rfl
  | some b =>
    cases b with
    | false => rfl
    | true => cases evP P D (evalO tm) o h <;> rfl
theorem kd_float {P : Program} {D : Tab} {call : KCall} {round : KRound} {all : List Oper} {o : Oper} {tm : T AV} {h h' : H} {v : AV} (hk : isChain o = false) (he : evStep1 P D call round all o tm h = some (v, h')) : h' = h := by
  rw [evStep1_float hk] at he
  split at he
  · split at he
    · simp only [Option.some.injEq, Prod.mk.injEq] at he; exact he.2.symm
    · cases he
  · simp only [Option.some.injEq, Prod.mk.injEq] at he; exact he.2.symm
  · cases he
theorem kd_pure {P : Program} {D : Tab} {call : KCall} {round : KRound} {all : List Oper} {o : Oper} {tm : T AV} {h h' : H} {v : AV} (hk : kdOf o = .pure) (he : evStep1 P D call round all o tm h = some (v, h')) (h2 : H) :
    evStep1 P D call round all o tm h2 = some (v, h2) := by
  have hc : isChain o = false := by unfold isChain; rw [hk]
  rw [evStep1_float hc] at he ⊢
  rw [evP_heap hk h2 h]
  split at he
  · rename_i hw
    split at he
    · rename_i u hu
      simp only [Option.some.injEq, Prod.mk.injEq] at he
      simp only [hw, hu, he.1]
    · cases he
  · rename_i hw
    simp only [Option.some.injEq, Prod.mk.injEq] at he
    simp only [hw, he.1]
  · cases he

/-! What an operation looks at. -/
def tmpsOf : List Operand → List Tmp
  | [] => []
  | .tmp t :: xs => t :: tmpsOf xs
  | _ :: xs => tmpsOf xs
def guardT (all : List Oper) (o : Oper) : List Tmp :=
  match o.guard with
  | some (j, _) => match all[j]? with
    | some oj => match oj.dst with
      | some d => [d]
      | none => []
    | none => []
  | none => []
def looks (all : List Oper) (o : Oper) : List Tmp := guardT all o ++ tmpsOf o.op.operands.toList

theorem tmpsOf_mem {t : Tmp} : ∀ {l : List Operand}, Operand.tmp t ∈ l → t ∈ tmpsOf l
  | x :: l, h => by
    rcases List.mem_cons.1 h with rfl | h
    · simp [tmpsOf]
    · have := tmpsOf_mem h
      cases x <;> simp [tmpsOf, this]
theorem evalO_congr {tm tm' : T AV} {x : Operand} (h : ∀ t, x = .tmp t → tm.get t = tm'.get t) : evalO tm x = evalO tm' x := by
  cases x with
  | tmp t => simp only [evalO, h t rfl]
  | _ => rfl
theorem map_congr' {α : Type} {f g : Operand → α} {l : List Operand} (h : ∀ x ∈ l, f x = g x) : l.map f = l.map g := List.map_congr_left h

theorem evCallee_congr {P : Program} {D : Tab} {ρ ρ' : Operand → AV} {c : Call} {ty : TypeId} {h : H} (hx : ∀ x ∈ c.operands.toList, ρ x = ρ' x) : evCallee P D ρ c ty h = evCallee P D ρ' c ty h := by
  have hargs : c.args.toList.map ρ = c.args.toList.map ρ' := map_congr' fun x hm => hx x (by
    unfold Call.operands
    rw [Array.toList_append]
    exact List.mem_append_right _ hm)
  unfold evCallee
  rw [hargs]
  cases hc : c.callee with
  | value f =>
    have : ρ f = ρ' f := hx f (by unfold Call.operands; rw [Array.toList_append, hc]; simp)
    simp only [this]
  | builtin b => rfl
  | invoke r m => rfl

theorem evOp_congr {P : Program} {D : Tab} {ρ ρ' : Operand → AV} {o : Oper} {h : H} (hx : ∀ x ∈ o.op.operands.toList, ρ x = ρ' x) : evOp P D ρ o h = evOp P D ρ' o h := by
  unfold evOp
  cases hop : o.op <;> rw [hop] at hx <;> simp only [Op.operands] at hx <;> try rfl
  all_goals first
    | (simp only [List.mem_cons, List.not_mem_nil, or_false, forall_eq_or_imp, forall_eq] at hx; simp only [hx]; done)
    | skip
  case build t ps =>
    have : (ps.toList.map fun (i, x) => (i, ρ x)) = (ps.toList.map fun (i, x) => (i, ρ' x)) := List.map_congr_left fun p hp => by
      obtain ⟨i, x⟩ := p
      have := hx x (by simp; exact ⟨i, by simpa using hp⟩)
      simp only [this]
    simp only [this]
  case buildSlice t n ps =>
    have : (ps.toList.map fun (i, x) => (i, ρ x)) = (ps.toList.map fun (i, x) => (i, ρ' x)) := List.map_congr_left fun p hp => by
      obtain ⟨i, x⟩ := p
      have := hx x (by simp; exact ⟨i, by simpa using hp⟩)
      simp only [this]
    simp only [this]
  case makeFunc fn first cap =>
    have h1 : first.toList.map ρ = first.toList.map ρ' := map_congr' fun x hm => hx x (by rw [Array.toList_append]; exact List.mem_append_left _ hm)
    have h2 : cap.toList.map ρ = cap.toList.map ρ' := map_congr' fun x hm => hx x (by rw [Array.toList_append]; exact List.mem_append_right _ hm)
    simp only [h1, h2]
  case makeMap t r =>
    cases r with
    | none => rfl
    | some x => simp only [Option.map_some, hx x (by simp)]
  case slice t x lo hi mx =>
    have h0 : ρ x = ρ' x := hx x (by simp)
    have h1 : lo.map ρ = lo.map ρ' := by
      cases lo with
      | none => rfl
      | some y => simp only [Option.map_some, hx y (by simp)]
    have h2 : hi.map ρ = hi.map ρ' := by
      cases hi with
      | none => rfl
      | some y => simp only [Option.map_some, hx y (by simp)]
    cases mx with
    | none => simp only [h0, h1, h2]
    | some m => rfl
  case call c => exact evCallee_congr hx

theorem evStep1_congr {P : Program} {D : Tab} {call : KCall} {round : KRound} {all : List Oper} {o : Oper} {tm tm' : T AV} {h : H} (ht : ∀ t ∈ looks all o, tm.get t = tm'.get t) : evStep1 P D call round all o tm h = evStep1 P D call round all o tm' h := by
  have hw : wantedA all tm o = wantedA all tm' o := by
    unfold wantedA
    cases hg : o.guard with
    | none => rfl
    | some p =>
      obtain ⟨j, want⟩ := p
      simp only
      cases hj : all[j]? with
      | none => rfl
      | some oj =>
        simp only
        cases hd : oj.dst with
        | none => rfl
        | some d => simp only [ht d (by simp [looks, guardT, hg, hj, hd])]
  have he : evOp P D (evalO tm) o h = evOp P D (evalO tm') o h := evOp_congr fun x hx => evalO_congr fun t hxt => ht t (by
    subst hxt
    exact List.mem_append_right _ (tmpsOf_mem hx))
  unfold evStep1
  rw [hw, he]

/-! The masks: who comes ahead of whom. -/
def preMask (ms : List Nat) (es : List Edge) : Nat :=
  es.foldl (fun s e => bif Region.binds .any e then s ||| (2 ^ e.on ||| (ms[e.on]?).getD 0) else s) 0
def masksF : List Oper → List Nat → List Nat
  | [], ms => ms
  | o :: os, ms => masksF os (ms ++ [preMask ms o.after.toList])
def masks (ops : List Oper) : List Nat := masksF ops []

def edgesOk : Nat → List Oper → Bool
  | _, [] => true
  | i, o :: os => bif o.after.toList.all (fun e => !(Region.binds .any e) || Nat.blt e.on i) then edgesOk (i + 1) os else false

/-- i ahead of j in the text: must i wait to be done before j? -/
def need (all : List Oper) (oi oj : Oper) : Bool :=
  (isChain oi && isChain oj) ||
  (match oi.dst with
   | some d => (looks all oj).contains d || (match oj.dst with | some d' => Nat.beq d d' | none => false)
   | none => false) ||
  (match oj.dst with
   | some d => (looks all oi).contains d
   | none => false)
def pairsOk (all : List Oper) (ms : List Nat) : Bool :=
  (List.range all.length).all fun j => (List.range j).all fun i =>
    match all[i]?, all[j]?, ms[j]? with
    | some oi, some oj, some m => !(need all oi oj) || m.testBit i
    | _, _, _ => false
def staticOk (ops : List Oper) : Bool :=
  bif edgesOk 0 ops then pairsOk ops (masks ops) else false

/-! The order of the text, told. -/
def evTr (P : Program) (D : Tab) (call : KCall) (round : KRound) (all : List Oper) : List Oper → St → Option (List (T AV × AV) × List H × St)
  | [], s => some ([], [], s)
  | o :: os, s =>
    match evStep1 P D call round all o s.tm s.h with
    | some (v, h') =>
      match s.put o.dst v h' with
      | some s' =>
        match evTr P D call round all os s' with
        | some (tr, hs, sf) => some ((s.tm, v) :: tr, bif isChain o then h' :: hs else hs, sf)
        | none => none
      | none => none
    | none => none

/-- How many chain operations are among those of a kind. -/
def countC (p : Nat → Bool) : Nat → List Oper → Nat
  | _, [] => 0
  | i, o :: os => (bif isChain o then (bif p i then 1 else 0) else 0) + countC p (i + 1) os

def readAt (P : Program) (D : Tab) (call : KCall) (round : KRound) (all : List Oper) (o : Oper) (tm : T AV) (v : AV) (lo hi : Nat) : Nat → List H → Bool
  | _, [] => true
  | k, h :: hs =>
    bif (bif Nat.blt k lo then true else bif Nat.blt hi k then true else match evStep1 P D call round all o tm h with
      | some (v', _) => AV.beq v v'
      | none => false) then readAt P D call round all o tm v lo hi (k + 1) hs else false
def readsOk (P : Program) (D : Tab) (call : KCall) (round : KRound) (all : List Oper) (ms : List Nat) (hs : List H) : Nat → List Oper → List (T AV × AV) → Bool
  | _, [], _ => true
  | i, o :: os, (tm, v) :: tr =>
    bif (match kdOf o with
      | .read => readAt P D call round all o tm v (countC (fun j => ((ms[i]?).getD 0).testBit j) 0 all) (countC (fun j => !(((ms[j]?).getD 0).testBit i)) 0 all) 0 hs
      | _ => true) then readsOk P D call round all ms hs (i + 1) os tr else false
  | _, _ :: _, [] => false

def evDraw (P : Program) (D : Tab) : DrawF := fun call round ops s =>
  bif staticOk ops then
    match evTr P D call round ops ops s with
    | some (tr, hs, sf) => bif readsOk P D call round ops (masks ops) (s.h :: hs) 0 ops tr then some sf else none
    | none => none
  else none
end Go.Rx
