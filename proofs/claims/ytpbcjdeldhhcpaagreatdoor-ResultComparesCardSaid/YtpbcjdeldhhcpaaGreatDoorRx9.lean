import Derived.Test.YtpbcjdeldhhcpaaGreatDoorRx8
set_option linter.unusedVariables false
set_option linter.unusedSimpArgs false
set_option linter.unusedSectionVars false
noncomputable section
namespace Go.Rx
open Go

/-! ### 22. One operation -/
inductive OpR where
  | val (v : AV) (h : H)
  | skip (h : H)
  | enter (f : FuncId) (args : List AV)
  | round (id : Nat) (args : List AV)

def evalO (tm : T AV) : Operand → AV
  | .tmp t => match tm.get t with
    | some v => v
    | none => .any
  | .const v => ofVal v
  | .global _ => .any
  | .func f => .func (.func f) [] []

def evBuiltin (P : Program) (D : Tab) (b : Builtin) (ts : Array TypeId) (ty : TypeId) (args : List AV) (h : H) : Option (AV × H) :=
  match b, args with
  | .append, [x, y] => evAppend D ts x y h
  | .len, [x] => match evLen P D ts ty x h with
    | some v => some (v, h)
    | none => none
  | .min, _ => match AV.vals args with
    | some l => match evPure P (Builtin.min_ ts ty l.toArray) with
      | some v => some (v, h)
      | none => none
    | none => none
  | .max, _ => match AV.vals args with
    | some l => match evPure P (Builtin.max_ ts ty l.toArray) with
      | some v => some (v, h)
      | none => none
    | none => none
  | .clear, [x] => match evClear D ts x h with
    | some h' => some (.tuple [], h')
    | none => none
  | _, _ => none

def okF (D : Tab) (f : FuncId) : Bool :=
  match D.fn f with
  | some x => x.body.isSome
  | none => false

def evCallee (P : Program) (D : Tab) (ρ : Operand → AV) (c : Call) (ty : TypeId) (h : H) : Option OpR :=
  match c.callee with
  | .value f =>
    match ρ f with
    | .func (.func g) first cap => bif okF D g then some (.enter g (first ++ (c.args.toList.map ρ ++ cap))) else none
    | .yield id => some (.round id (c.args.toList.map ρ))
    | _ => none
  | .builtin b => match evBuiltin P D b c.argTypes ty (c.args.toList.map ρ) h with
    | some (v, h') => some (.val v h')
    | none => none
  | .invoke _ _ => none

def valR (h : H) : Option AV → Option OpR
  | some v => some (.val v h)
  | none => none
def newR : Option (AV × H) → Option OpR
  | some (v, h) => some (.val v h)
  | none => none
def skipR : Option H → Option OpR
  | some h => some (.skip h)
  | none => none

def evNilCheck (x : AV) : Option AV :=
  match x with
  | .ptr _ _ => some x
  | .func (.func _) _ _ => some x
  | _ => none

def evOp (P : Program) (D : Tab) (ρ : Operand → AV) (o : Oper) (h : H) : Option OpR :=
  match o.op with
  | .move x => some (.val (ρ x) h)
  | .assign x => some (.val (ρ x) h)
  | .pick c a b => match ρ c with
    | .bool t => some (.val (bif t then ρ a else ρ b) h)
    | _ => none
  | .alloc t => newR (evAlloc D t h)
  | .box _ x => newR (evBox (ρ x) h)
  | .build t ps => valR h (evBuild D t (ps.toList.map fun (i, x) => (i, ρ x)))
  | .buildSlice t n ps => newR (evBuildSlice D t n (ps.toList.map fun (i, x) => (i, ρ x)) h)
  | .load t a => valR h (evLoad D t (ρ a) h)
  | .store t a x => skipR (evStore D t (ρ a) (ρ x) h)
  | .nilCheck x => valR h (evNilCheck (ρ x))
  | .binOp op t x y _ => valR h (evBin P D op t x y (ρ x) (ρ y))
  | .unOp op _ x => valR h (ev1 P (Op.unary op) (ρ x))
  | .convert s d x => valR h (ev1 P (convert s d) (ρ x))
  | .makeFunc fn first cap => some (.val (.func fn (first.toList.map ρ) (cap.toList.map ρ)) h)
  | .makeMap _ r => newR (evMakeMap (r.map ρ) h)
  | .makeSlice t l c => newR (evMakeSlice D t (ρ l) (ρ c) h)
  | .slice t x lo hi none => valR h (evSlice P D t (ρ x) (lo.map ρ) (hi.map ρ) h)
  | .fieldAddr s x f => valR h (evField D s (ρ x) f)
  | .field t x f => valR h (evFieldOf D t (ρ x) f)
  | .indexAddr t x i => valR h (evIndexAddr D t (ρ x) (ρ i))
  | .index t x i => valR h (evIndex P D t (ρ x) (ρ i))
  | .lookup t m k ok => valR h (evLookup D t (ρ m) (ρ k) ok h)
  | .mapUpdate t m k x => skipR (evMapUpdate D t (ρ m) (ρ k) (ρ x) h)
  | .insert t m k x => skipR (evMapUpdate D t (ρ m) (ρ k) (ρ x) h)
  | .range t x => newR (evRange D t (ρ x) h)
  | .next it st => newR (evNext (ρ it) st h)
  | .extract x i => valR h (evExtract (ρ x) i)
  | .call c => evCallee P D ρ c o.type h
  | _ => none

/-! ### 23. Regions, code, calls -/
structure St where
  tm : T AV
  nt : Nat
  df : List Nat
  h : H
inductive Ex where
  | normal
  | exit (id : Nat)
  | ret

def St.put (s : St) (d : Option Tmp) (v : AV) (h : H) : Option St :=
  match d with
  | some d => bif Nat.ble s.nt d then none else some { s with tm := s.tm.set d (some v), h := h }
  | none => some { s with h := h }

def wantedA (all : List Oper) (tm : T AV) (o : Oper) : Option Bool :=
  match o.guard with
  | none => some true
  | some (j, want) =>
    match all[j]? with
    | some oj => match oj.dst with
      | some d => match tm.get d with
        | some (.bool b) => some (b == want)
        | some (.tuple _) => some false
        | _ => none
      | none => none
    | none => none

abbrev CallF := FuncId → List AV → H → Option (AV × H)
abbrev RoundF := Nat → List AV → H → Option (AV × H)
/-- Calls, and rounds, by the temporary that their result goes into. -/
abbrev KCall := Option Tmp → CallF
abbrev KRound := Option Tmp → RoundF

/-- One operation: the value that goes into its temporary, and the heap behind it. -/
def evStep1 (P : Program) (D : Tab) (call : KCall) (round : KRound) (all : List Oper) (o : Oper) (tm : T AV) (h : H) : Option (AV × H) :=
  match wantedA all tm o with
  | some true =>
    match evOp P D (evalO tm) o h with
    | some (.val v h') => some (v, h')
    | some (.skip h') => some (.tuple [], h')
    | some (.enter f args) => call o.dst f args h
    | some (.round id args) => round o.dst id args h
    | none => none
  | some false => some (.tuple [], h)
  | none => none
def evStep (P : Program) (D : Tab) (call : KCall) (round : KRound) (all : List Oper) (o : Oper) (s : St) : Option St :=
  match evStep1 P D call round all o s.tm s.h with
  | some (v, h) => s.put o.dst v h
  | none => none

def evOps (P : Program) (D : Tab) (call : KCall) (round : KRound) (all : List Oper) : List Oper → St → Option St
  | [], s => some s
  | o :: os, s => match evStep P D call round all o s with
    | some s' => evOps P D call round all os s'
    | none => none

def argT : Nat → List AV → T AV → T AV
  | _, [], t => t
  | i, a :: as, t => argT (i + 1) as (t.set i (some a))

def setAll (nt : Nat) : List Tmp → List AV → T AV → Option (T AV)
  | [], [], t => some t
  | p :: ps, a :: as, t => bif Nat.ble nt p then none else setAll nt ps as (t.set p (some a))
  | _, _, _ => none

/-- A round of a loop over a function. -/
def evRound (code : Option Nat → Code → St → Option (Ex × St)) (id : Nat) (args : List AV) (h : H) : Option (AV × H) :=
  match h.get id with
  | some (.loop _ _ _ tm nt ps asg body _) =>
    match setAll nt ps args tm with
    | some tm' =>
      match code (some id) asg { tm := tm', nt := nt, df := [], h := h } with
      | some (.normal, s1) =>
        match s1.h.get id with
        | some (.loop .ready p1 f1 t1 n1 q1 a1 b1 d1) =>
          match code (some id) body { s1 with h := s1.h.put id (some (.loop .busy p1 f1 t1 n1 q1 a1 b1 d1)) } with
          | some (e, s2) =>
            match s2.h.get id, s2.df with
            | some (.loop _ p2 f2 t2 n2 q2 a2 b2 d2), [] =>
              match e with
              | .normal => some (.bool true, s2.h.put id (some (.loop .ready none f2 t2 n2 q2 a2 b2 d2)))
              | .ret => some (.bool false, s2.h.put id (some (.loop .done (some .ret) f2 t2 n2 q2 a2 b2 d2)))
              | .exit i => some (.bool false, s2.h.put id (some (.loop .done (some (.exit i)) f2 t2 n2 q2 a2 b2 d2)))
            | _, _ => none
          | none => none
        | _ => none
      | _ => none
    | none => none
  | _ => none

def pendR : Option Code → Option Ex
  | none => some .normal
  | some .ret => some .ret
  | some (.exit i) => some (.exit i)
  | _ => none

/-- The call of the function that is ranged over, and what the last round has left; l: the loop's record. -/
def evLoop (call : CallF) (f : FuncId) (args : List AV) (l : Nat) (df : List Nat) (s : St) (h2 : H) : Option (Ex × St) :=
  match call f args h2 with
  | some (_, h3) =>
    match h3.get l with
    | some (.loop .busy _ _ _ _ _ _ _ _) => none
    | some (.loop _ p f3 t3 n3 q3 a3 b3 d3) =>
      match pendR p with
      | some e => some (e, { s with df := df, h := h3.put l (some (.loop .exhausted p f3 t3 n3 q3 a3 b3 d3)) })
      | none => none
    | _ => none
  | none => none

/-- A loop over a function: its record is laid; in an outermost one, the block for the rounds' deferred calls ahead of it. -/
def evRange2 (D : Tab) (call : CallF) (rd : Option Nat) (fn : FuncId) (g : Operand) (ps : Array Tmp) (asg body : Code) (s : St) : Option (Ex × St) :=
  match evalO s.tm g with
  | .func (.func f) first cap =>
    bif okF D f then
      match rd with
      | none => evLoop call f (first ++ (.yield (s.h.nx + 1) :: cap)) (s.h.nx + 1) (s.h.nx :: s.df) s ((s.h.new .defs).new (.loop .ready none fn s.tm s.nt ps.toList asg body s.h.nx))
      | some r => match s.h.get r with
        | some (.loop _ _ _ _ _ _ _ _ d) => evLoop call f (first ++ (.yield s.h.nx :: cap)) s.h.nx s.df s (s.h.new (.loop .ready none fn s.tm s.nt ps.toList asg body d))
        | _ => none
    else none
  | _ => none

/-- How a region that draws its order is gone through. -/
abbrev DrawF := KCall → KRound → List Oper → St → Option St

def evCode (P : Program) (D : Tab) (draws : DrawF) (call : CallF) (fn : FuncId) : Nat → Option Nat → Code → St → Option (Ex × St)
  | 0, _, _, _ => none
  | n + 1, rd, c, s =>
    match c with
    | .skip => some (.normal, s)
    | .region _ ops draw =>
      match (bif draw then draws (fun _ => call) (fun _ => evRound (evCode P D draws call fn n)) ops.toList s else evOps P D (fun _ => call) (fun _ => evRound (evCode P D draws call fn n)) ops.toList ops.toList s) with
      | some s' => some (.normal, s')
      | none => none
    | .seq a b =>
      match evCode P D draws call fn n rd a s with
      | some (.normal, s') => evCode P D draws call fn n rd b s'
      | r => r
    | .cond x a b =>
      match evalO s.tm x with
      | .bool t => evCode P D draws call fn n rd (bif t then a else b) s
      | _ => none
    | .block id b =>
      match evCode P D draws call fn n rd b s with
      | some (.exit i, s') => bif Nat.beq i id then some (.normal, s') else some (.exit i, s')
      | r => r
    | .loop b =>
      match evCode P D draws call fn n rd b s with
      | some (.normal, s') => evCode P D draws call fn n rd (.loop b) s'
      | r => r
    | .rangeFunc g ps asg body => evRange2 D call rd fn g ps asg body s
    | .exit id => some (.exit id, s)
    | .label _ => some (.normal, s)
    | .ret => some (.ret, s)
    | .scope b => match rd with
      | none => evCode P D draws call fn n rd b s
      | some _ => none
    | _ => none

def evResults (D : Tab) (s : St) : List ResultVar → Option (List AV)
  | [] => some []
  | .tmp t :: rs => match evResults D s rs with
    | some l => some (evalO s.tm (.tmp t) :: l)
    | none => none
  | .cell a t :: rs => match evLoad D t (evalO s.tm (.tmp a)) s.h, evResults D s rs with
    | some v, some l => some (v :: l)
    | _, _ => none

/-- The blocks for the rounds' deferred calls: none has come. -/
def evDefs : List Nat → H → Option H
  | [], h => some h
  | id :: ids, h =>
    match h.get id with
    | some .defs => evDefs ids (h.put id none)
    | _ => none

def evEnd (D : Tab) (fn : Func) (s : St) : Option (AV × H) :=
  match evDefs s.df s.h with
  | some h =>
    match evResults D { s with h := h } fn.results.toList with
    | some [v] => some (v, h)
    | some l => some (.tuple l, h)
    | none => none
  | none => none

def evCall (P : Program) (D : Tab) (draws : DrawF) (ext : FuncId → Option CallF) : Nat → CallF
  | 0, _, _, _ => none
  | n + 1, f, args, h =>
    match ext f with
    | some e => e f args h
    | none =>
      match D.fn f with
      | some fn =>
        match fn.body with
        | some c =>
          match evCode P D draws (evCall P D draws ext n) f n none c { tm := argT 0 args .nil, nt := args.length + (fn.ntmps - args.length), df := [], h := h } with
          | some (.normal, s) => evEnd D fn s
          | some (.ret, s) => evEnd D fn s
          | _ => none
        | none => none
      | none => none
end Go.Rx
