import Derived.Test.YtpbcjdeldhhcpaaGreatDoorSx2
set_option linter.unusedVariables false
set_option linter.unusedSimpArgs false
set_option linter.unusedSectionVars false
set_option linter.unusedVariables false
noncomputable section
namespace Go.Rx
open Go

/-! ### S5. What there is to show of a piece of code: a tree -/
inductive Tr where
  | done (e : Ex) (s : St)
  | ite (c : Bool) (a b : Tr)
  | exV (r : Option AV) (k : AV → Tr)
  | exH (r : Option (AV × H)) (k : AV → H → Tr)
  | exU (r : Option H) (k : H → Tr)
  | call (f : FuncId) (args : List AV) (h : H) (k : AV → H → Tr)
  | code (c : Code) (s : St) (k : Ex → St → Tr)
  | cut (s : St) (k : St → Tr)
  | pr (p : Prop) (t : Tr)
  | stuck

/-- What the tree asks for. -/
def Tr.holds (P : Program) (pin : Nat) (rd : Option Nat) : Tr → (Ex → St → Prop) → Prop
  | .done e s, K => K e s
  | .ite c a b, K => (c = true → a.holds P pin rd K) ∧ (c = false → b.holds P pin rd K)
  | .exV r k, K => ∃ v, r = some v ∧ (k v).holds P pin rd K
  | .exH r k, K => ∃ v h, r = some (v, h) ∧ (k v h).holds P pin rd K
  | .exU r k, K => ∃ h, r = some h ∧ (k h).holds P pin rd K
  | .call f args h k, K => ∃ v h', CRuns P f args h v h' ∧ (k v h').holds P pin rd K
  | .code c s k, K => RWp P pin rd c s fun e s' => (k e s').holds P pin rd K
  | .cut s k, K => ∃ s2 g F, Ren pin rd s s2 g F ∧ (k s2).holds P pin rd K
  | .pr p t, K => p ∧ t.holds P pin rd K
  | .stuck, _ => False

/-- A number that is written down, made short. -/
def fN (k : Nat → Tr) (x : Nat) : Nat → Nat → Tr
  | 0, _ => k x
  | n + 1, c => bif Nat.beq x c then k c else fN k x n (c + 1)
theorem fN_eq (k : Nat → Tr) (x : Nat) : ∀ n c, fN k x n c = k x
  | 0, _ => rfl
  | n + 1, c => by
    rw [fN]
    cases hb : Nat.beq x c with
    | true => rw [Nat.eq_of_beq_eq_true hb]; rfl
    | false => exact fN_eq k x n (c + 1)
/-- A value whose form is looked at first. -/
def fV (v : AV) (k : AV → Tr) : Tr :=
  match v with
  | .any => k .any
  | .bool b => k (.bool b)
  | .int q n => k (.int q n)
  | .str s => k (.str s)
  | .ptr id off => fN (fun id => k (.ptr id off)) id 64 0
  | .nilp => k .nilp
  | .slice id off len esz => fN (fun id => k (.slice id off len esz)) id 64 0
  | .nils => k .nils
  | .map id => fN (fun id => k (.map id)) id 64 0
  | .nilm => k .nilm
  | .func f a b => k (.func f a b)
  | .yield id => k (.yield id)
  | .nilf => k .nilf
  | .agg l => k (.agg l)
  | .tuple l => k (.tuple l)
  | .view vals off len esz => k (.view vals off len esz)
  | .vptr vals off => k (.vptr vals off)
theorem fV_eq (v : AV) (k : AV → Tr) : fV v k = k v := by cases v <;> first | rfl | exact fN_eq _ _ _ _
/-- A heap whose newest entries are looked at first. -/
def fH (h : H) (k : H → Tr) : Tr :=
  match h with
  | ⟨hp, nx, hide, lo, log⟩ =>
    fN (fun nx => match hp with
      | .list ((i, o) :: (j, p) :: l) => fN (fun i => fN (fun j => k ⟨.list ((i, o) :: (j, p) :: l), nx, hide, lo, log⟩) j 64 0) i 64 0
      | .list ((i, o) :: l) => fN (fun i => k ⟨.list ((i, o) :: l), nx, hide, lo, log⟩) i 64 0
      | hp => k ⟨hp, nx, hide, lo, log⟩) nx 64 0
theorem fH_eq (h : H) (k : H → Tr) : fH h k = k h := by
  unfold fH
  split
  rw [fN_eq]
  split
  · rw [fN_eq, fN_eq]
  · rw [fN_eq]
  · rfl
/-- A list that is looked at to its end. -/
def fL (l : List AV) (k : List AV → Tr) : Tr :=
  match l with
  | [] => k []
  | a :: t => fV a fun a => fL t fun t => k (a :: t)
theorem fL_eq : ∀ (l : List AV) (k : List AV → Tr), fL l k = k l
  | [], _ => rfl
  | a :: t, k => by rw [fL, fV_eq, fL_eq t]
def fA (v : AV) (k : AV → Tr) : Tr :=
  match v with
  | .agg l => fL l fun l => k (.agg l)
  | v => k v
theorem fA_eq (v : AV) (k : AV → Tr) : fA v k = k v := by
  unfold fA
  split
  · rw [fL_eq]
  · rfl
def fHL (h : H) (k : H → Tr) : Tr :=
  match h with
  | ⟨.list ((i, some (.cells vals own)) :: l), nx, hide, lo, log⟩ => fL vals fun vals => k ⟨.list ((i, some (.cells vals own)) :: l), nx, hide, lo, log⟩
  | h => k h
theorem fHL_eq (h : H) (k : H → Tr) : fHL h k = k h := by
  unfold fHL
  split
  · rw [fL_eq]
  · rfl

/-! One operation. -/
def tV (r : Option AV) (h : H) (k : AV → H → Tr) : Tr := .exV r fun v => k v h
def tB (b : Bool) (h : H) (k : AV → H → Tr) : Tr := k (.bool b) h
def sBin (P : Program) (D : Tab) (op : BinOp) (t : TypeId) (X Y : Operand) (x y : AV) (h : H) (k : AV → H → Tr) : Tr :=
  match x, y with
  | .int k1 a, .int k2 b => bif kEq k1 k2 then (match op with
      | .eql => tB (decide (a = b)) h k
      | .neq => tB (!decide (a = b)) h k
      | .lss => tB (decide (a < b)) h k
      | .leq => tB (decide (a ≤ b)) h k
      | .gtr => tB (decide (b < a)) h k
      | .geq => tB (decide (b ≤ a)) h k
      | _ => tV (evBin P D op t X Y x y) h k) else .stuck
  | .str a, .str b => (match op with
      | .eql => tB (decide (a = b)) h k
      | .neq => tB (!decide (a = b)) h k
      | _ => tV (evBin P D op t X Y x y) h k)
  | _, _ => tV (evBin P D op t X Y x y) h k
def isV (o : Oper) : Bool := match o.op with
  | .call c => (match c.callee with
    | .value _ => true
    | _ => false)
  | _ => false
def sameD : Option Tmp → Option Tmp → Bool
  | some a, some b => Nat.beq a b
  | none, none => true
  | _, _ => false
/-- No call behind puts its result into d. -/
def freeD (d : Option Tmp) : List Oper → Bool
  | [] => true
  | o :: os => bif isV o then (bif sameD o.dst d then false else freeD d os) else freeD d os
def sBui (P : Program) (D : Tab) (b : Builtin) (ts : Array TypeId) (ty : TypeId) (args : List AV) (h : H) (k : AV → H → Tr) : Tr :=
  match b, args with
  | .len, [.str s] => (match ts[0]? with
    | some t => (match D.und t with
      | some .string => k (.int .i64 s.size) h
      | _ => .stuck)
    | none => .stuck)
  | .len, [.view _ _ len _] => (match ts[0]? with
    | some t => (match D.und t with
      | some (.slice _) => k (.int .i64 len) h
      | _ => .stuck)
    | none => .stuck)
  | .len, [.slice _ _ len _] => (match ts[0]? with
    | some t => (match D.und t with
      | some (.slice _) => k (.int .i64 len) h
      | _ => .stuck)
    | none => .stuck)
  | _, _ => .exH (evBuiltin P D b ts ty args h) k
def sOp (P : Program) (D : Tab) (os : List Oper) (ρ : Operand → AV) (o : Oper) (h : H) (k : AV → H → Tr) : Tr :=
  match o.op with
  | .move x => k (ρ x) h
  | .assign x => k (ρ x) h
  | .pick c a b => (match ρ c with
    | .bool true => k (ρ a) h
    | .bool false => k (ρ b) h
    | _ => .stuck)
  | .alloc t => .exH (evAlloc D t h) k
  | .box _ x => .exH (evBox (ρ x) h) k
  | .build t ps => tV (evBuild D t (ps.toList.map fun (i, x) => (i, ρ x))) h fun v h => fA v fun v => k v h
  | .buildSlice t n ps => .exH (evBuildSlice D t n (ps.toList.map fun (i, x) => (i, ρ x)) h) fun v h => fHL h fun h => k v h
  | .load t a => (match ρ a with
    | .ptr _ _ => tV (evLoad D t (ρ a) h) h fun v h => fA v fun v => k v h
    | _ => tV (evLoad D t (ρ a) h) h k)
  | .store t a x => .exU (evStore D t (ρ a) (ρ x) h) fun h' => k (.tuple []) h'
  | .nilCheck x => tV (evNilCheck (ρ x)) h k
  | .binOp op t x y _ => sBin P D op t x y (ρ x) (ρ y) h k
  | .unOp op _ x => (match op, ρ x with
    | .not, .bool b => k (.bool (!b)) h
    | op, v => tV (ev1 P (Op.unary op) v) h k)
  | .convert s d x => tV (ev1 P (convert s d) (ρ x)) h k
  | .makeFunc fn first cap => k (.func fn (first.toList.map ρ) (cap.toList.map ρ)) h
  | .makeMap _ r => .exH (evMakeMap (r.map ρ) h) k
  | .makeSlice t l c => .exH (evMakeSlice D t (ρ l) (ρ c) h) k
  | .slice t x lo hi none => tV (evSlice P D t (ρ x) (lo.map ρ) (hi.map ρ) h) h k
  | .fieldAddr s x f => tV (evField D s (ρ x) f) h k
  | .field t x f => tV (evFieldOf D t (ρ x) f) h k
  | .indexAddr t x i => tV (evIndexAddr D t (ρ x) (ρ i)) h k
  | .index t x i => tV (evIndex P D t (ρ x) (ρ i)) h k
  | .lookup t m kk ok => tV (evLookup D t (ρ m) (ρ kk) ok h) h k
  | .mapUpdate t m kk x => .exU (evMapUpdate D t (ρ m) (ρ kk) (ρ x) h) fun h' => k (.tuple []) h'
  | .insert t m kk x => .exU (evMapUpdate D t (ρ m) (ρ kk) (ρ x) h) fun h' => k (.tuple []) h'
  | .range t x => .exH (evRange D t (ρ x) h) k
  | .next it st => .exH (evNext (ρ it) st h) k
  | .extract x i => tV (evExtract (ρ x) i) h k
  | .call c => (match c.callee with
    | .value f => (match ρ f with
      | .func (.func g) first cap => bif freeD o.dst os then .pr (okF D g = true) (.call g (first ++ (c.args.toList.map ρ ++ cap)) h k) else .stuck
      | _ => .stuck)
    | .builtin b => sBui P D b c.argTypes o.type (c.args.toList.map ρ) h k
    | _ => .stuck)
  | _ => .stuck

/-- A state behind an operation. -/
def sPut (s : St) (d : Option Tmp) (v : AV) (h : H) (k : St → Tr) : Tr :=
  match s with
  | ⟨tm, nt, df, _⟩ => fH h fun h => (match d with
    | none => k ⟨tm, nt, df, h⟩
    | some d => bif Nat.ble nt d then .stuck else (match tm with
      | .list l => fV v fun v => k ⟨.list ((d, some v) :: l), nt, df, h⟩
      | _ => .stuck))
/-- A temporary's value told anew. -/
def sKnow (s : St) (d : Tmp) (v : AV) (k : St → Tr) : Tr :=
  match s with
  | ⟨.list l, nt, df, h⟩ => k ⟨.list ((d, some v) :: l), nt, df, h⟩
  | _ => .stuck

def lookG : List (Nat × Bool) → Nat → Option Bool
  | [], _ => none
  | (j, b) :: l, i => bif Nat.beq j i then some b else lookG l i
/-- The operations of a region, one behind the other; gs: the guards that are known. -/
def sTr (P : Program) (D : Tab) (all : List Oper) : List Oper → List (Nat × Bool) → St → (List (T AV × AV) → List H → St → Tr) → Tr
  | [], _, s, k => k [] [] s
  | o :: os, gs, s, k =>
    let run (gs : List (Nat × Bool)) (s : St) : Tr := sOp P D os (evalO s.tm) o s.h fun v h' => sPut s o.dst v h' fun s' => sTr P D all os gs s' fun tr hs sf => k ((s.tm, v) :: tr) (bif isChain o then h' :: hs else hs) sf
    let pass (gs : List (Nat × Bool)) (s : St) : Tr := sPut s o.dst (.tuple []) s.h fun s' => sTr P D all os gs s' fun tr hs sf => k ((s.tm, .tuple []) :: tr) (bif isChain o then s.h :: hs else hs) sf
    match o.guard with
    | none => run gs s
    | some (j, want) =>
      match all[j]? with
      | some oj => (match oj.dst with
        | some d => (match s.tm.get d with
          | some (.bool b) => (match lookG gs j with
            | some true => (match b with
              | true => (bif want then run gs s else pass gs s)
              | false => .stuck)
            | some false => (match b with
              | true => .stuck
              | false => (bif want then pass gs s else run gs s))
            | none => .ite b (sKnow s d (.bool true) fun s => bif want then run ((j, true) :: gs) s else pass ((j, true) :: gs) s)
                (sKnow s d (.bool false) fun s => bif want then pass ((j, false) :: gs) s else run ((j, false) :: gs) s))
          | some (.tuple _) => pass gs s
          | _ => .stuck)
        | none => .stuck)
      | none => .stuck

/-- The same, where nothing is asked of the way. -/
def sOs (P : Program) (D : Tab) (all : List Oper) : List Oper → List (Nat × Bool) → St → (St → Tr) → Tr
  | [], _, s, k => k s
  | o :: os, gs, s, k =>
    let run (gs : List (Nat × Bool)) (s : St) : Tr := sOp P D os (evalO s.tm) o s.h fun v h' => sPut s o.dst v h' fun s' => sOs P D all os gs s' k
    let pass (gs : List (Nat × Bool)) (s : St) : Tr := sPut s o.dst (.tuple []) s.h fun s' => sOs P D all os gs s' k
    match o.guard with
    | none => run gs s
    | some (j, want) =>
      match all[j]? with
      | some oj => (match oj.dst with
        | some d => (match s.tm.get d with
          | some (.bool b) => (match lookG gs j with
            | some true => (match b with
              | true => (bif want then run gs s else pass gs s)
              | false => .stuck)
            | some false => (match b with
              | true => .stuck
              | false => (bif want then pass gs s else run gs s))
            | none => .ite b (sKnow s d (.bool true) fun s => bif want then run ((j, true) :: gs) s else pass ((j, true) :: gs) s)
                (sKnow s d (.bool false) fun s => bif want then pass ((j, false) :: gs) s else run ((j, false) :: gs) s))
          | some (.tuple _) => pass gs s
          | _ => .stuck)
        | none => .stuck)
      | none => .stuck
theorem sOs_eq {P : Program} {D : Tab} {all : List Oper} : ∀ (os : List Oper) (gs : List (Nat × Bool)) (s : St) (k : St → Tr), sOs P D all os gs s k = sTr P D all os gs s fun _ _ sf => k sf
  | [], _, _, _ => rfl
  | o :: os, gs, s, k => by
    have e : ∀ gs s, sOs P D all os gs s k = sTr P D all os gs s fun _ _ sf => k sf := fun gs s => sOs_eq os gs s k
    simp only [sOs, sTr, e]

/-! Regions: what is read ahead of, or behind, what is written. -/
def rdAt (P : Program) (D : Tab) (all : List Oper) (o : Oper) (tm : T AV) (v : AV) (h : H) : Prop :=
  match wantedA all tm o with
  | some true => evP P D (evalO tm) o h = some v
  | some false => v = .tuple []
  | none => False
def rdOne (P : Program) (D : Tab) (all : List Oper) (o : Oper) (tm : T AV) (v : AV) (lo hi : Nat) : Nat → List H → Prop
  | _, [] => True
  | k, h :: hs => (bif (bif Nat.blt k lo then true else Nat.blt hi k) then True else rdAt P D all o tm v h) ∧ rdOne P D all o tm v lo hi (k + 1) hs
/-- It looks at no memory that could be written. -/
def indep (ρ : Operand → AV) (o : Oper) : Bool :=
  match o.op with
  | .load _ a => (match ρ a with
    | .vptr _ _ => true
    | _ => false)
  | .slice _ x _ _ none => (match ρ x with
    | .view _ _ _ _ => true
    | .str _ => true
    | .slice _ _ _ _ => true
    | _ => false)
  | .call c => (match c.callee with
    | .builtin .len => (match c.args.toList.map ρ with
      | [.view _ _ _ _] => true
      | [.str _] => true
      | [.slice _ _ _ _] => true
      | _ => false)
    | _ => false)
  | _ => false
def rdAll (P : Program) (D : Tab) (all : List Oper) (hs : List H) : Nat → List Oper → List (T AV × AV) → Prop
  | i, o :: os, (tm, v) :: tr => (match kdOf o with
      | .read => bif indep (evalO tm) o then True else rdOne P D all o tm v (countC (fun j => (((masks all)[i]?).getD 0).testBit j) 0 all) (countC (fun j => !((((masks all)[j]?).getD 0).testBit i)) 0 all) 0 hs
      | _ => True) ∧ rdAll P D all hs (i + 1) os tr
  | _, _, _ => True
def sReg (P : Program) (D : Tab) (ops : Array Oper) (draw : Bool) (s : St) (k : St → Tr) : Tr :=
  bif draw then .pr (staticOk ops.toList = true) (sTr P D ops.toList ops.toList [] s fun tr hs sf => (match hs with
    | [] => k sf
    | _ => .pr (rdAll P D ops.toList (s.h :: hs) 0 ops.toList tr) (k sf)))
  else sOs P D ops.toList ops.toList [] s k

def tScope (rd : Option Nat) (t : Tr) : Tr := match rd with
  | none => t
  | some _ => .stuck
/-- Code; loops, and ranges over functions, are told by who asks. brk: the regions ahead of which the state may be told anew. -/
def sCode (P : Program) (D : Tab) (rd : Option Nat) (brk : Nat → Bool) : Code → St → (Ex → St → Tr) → Tr
  | .skip, s, k => k .normal s
  | .region id ops draw, s, k => bif brk id then .cut s fun s => sReg P D ops draw s fun s' => k .normal s' else sReg P D ops draw s fun s' => k .normal s'
  | .seq a b, s, k => sCode P D rd brk a s fun e s' => (match e with
    | .normal => sCode P D rd brk b s' k
    | .exit i => k (.exit i) s'
    | .ret => k .ret s')
  | .cond x a b, s, k => (match evalO s.tm x with
    | .bool t => .ite t (sCode P D rd brk a s k) (sCode P D rd brk b s k)
    | _ => .stuck)
  | .block id b, s, k => sCode P D rd brk b s fun e s' => (match e with
    | .normal => k .normal s'
    | .exit i => bif Nat.beq i id then k .normal s' else k (.exit i) s'
    | .ret => k .ret s')
  | .loop b, s, k => .code (.loop b) s k
  | .exit id, s, k => k (.exit id) s
  | .label _, s, k => k .normal s
  | .ret, s, k => k .ret s
  | .scope b, s, k => tScope rd (sCode P D rd brk b s k)
  | c, s, k => .code c s k
end Go.Rx
