/- Part K: the runner. -/
import Derived.Test.YtpmojikobjkllaaGreatDoorSxJ
namespace Go.Sx
open Go
noncomputable section

/-- What the runner is given: tables of types, functions and methods; the package-level variables that bear their own numbers; the clone of maps; where outcomes are joined. -/
structure Run where
  P : Program
  C : Cfg
  ng : Nat
  meth : T (List (String × FuncId))
  clone : Option FuncId
  join : FuncId → Bool
  tbl : FuncId → List AVal → T AObj → Nat → Option (List (AVal × T AObj × Nat)) := fun _ _ _ _ => none

structure St where
  tv : T AVal
  sz : Nat
  h : T AObj
  nx : Nat
  dfs : List Nat

inductive Ex where
  | normal
  | exit (id : Nat)
  | ret

def evOf (ng : Nat) (tv : T AVal) : Ev
  | .tmp t => some ((tv.get t).getD noVal)
  | .const v => ofV v
  | .global g => if g < ng then some (.ptr g 0) else none
  | .func f => some (.func f [] [])

def putTv (tv : T AVal) (sz : Nat) (dst : Option Tmp) (a : AVal) : T AVal :=
  match dst with
  | some d => if d < sz then tv.set d a else tv
  | none => tv

/-- Does the guard let an operation be carried out? (g: the slot of the operation that guards it.) -/
def wantedA (ops : List Oper) (tv : T AVal) (o : Oper) : Bool :=
  match o.guard with
  | none => true
  | some (j, want) => match ops[j]? with
    | some p => match p.dst with
      | some d => match tv.get d with
        | some (.bool b) => b == want
        | _ => false
      | none => false
    | none => false

/-- How an operation stands to memory: 0 not at all, 1 it reads, 2 it makes a block, 3 whatever else. -/
def kindOf : Op → Nat
  | .move _ | .pick .. | .build .. | .nilCheck _ | .binOp .. | .unOp .. | .convert .. | .makeInterface .. | .makeFunc .. | .slice .. | .fieldAddr .. | .field .. | .indexAddr .. | .index .. | .typeAssert .. | .extract .. => 0
  | .load .. | .lookup .. | .entry _ => 1
  | .alloc .. | .box .. | .buildSlice .. | .makeMap .. | .makeSlice .. => 2
  | .call { callee := .builtin .min, .. } | .call { callee := .builtin .max, .. } => 0
  | .call { callee := .builtin .len, .. } => 1
  | _ => 3

abbrev CallF := FuncId → List AVal → T AObj → Nat → Option Outs
abbrev RoundF := Nat → List AVal → T AObj → Nat → Option Outs

def one (a : Option AVal) (h : T AObj) (nx : Nat) : Option Outs :=
  match a with
  | some a => some [(a, h, nx)]
  | none => none

def acloneMap (h : T AObj) (nx : Nat) : List AVal → Option Outs
  | [.iface t (.map b)] => match h.get b with
    | some (.map _ es clock) => some [(.iface t (.map nx), h.set nx (.map false es clock), nx + 1)]
    | _ => none
  | _ => none

def findMeth (l : List (String × FuncId)) (m : String) : Option FuncId :=
  match l with
  | [] => none
  | (n, f) :: l => if n = m then some f else findMeth l m

/-- Operations that write, and calls. -/
def aeff (R : Run) (call : CallF) (round : RoundF) (ev : Ev) (h : T AObj) (nx : Nat) : Op → Option Outs
  | .assign x => one (ev x) h nx
  | .store t a x => match ev a, ev x with
    | some a, some v => match astore R.C h t a v with
      | some h' => some [(noVal, h', nx)]
      | none => none
    | _, _ => none
  | .mapUpdate t m k x => match ev m, ev k, ev x with
    | some m, some k, some v => match amapUpdate R.P R.C h t m k v with
      | some h' => some [(noVal, h', nx)]
      | none => none
    | _, _, _ => none
  | .range t x => match ev x with
    | some a => match arange R.C h nx t a with
      | some o => some [o]
      | none => none
    | none => none
  | .next x false => match ev x with
    | some a => anext h nx a
    | none => none
  | .call c => match c.callee with
    | .builtin .append => match c.args.toList, c.argTypes[0]?, c.argTypes[1]? with
      | [x, y], some t, some tx => match ev x, ev y with
        | some a, some b => match aappend R.C h nx t tx a b with
          | some o => some [o]
          | none => none
        | _, _ => none
      | _, _, _ => none
    | .builtin .copy => match c.args.toList, c.argTypes[0]? with
      | [x, y], some t => match ev x, ev y with
        | some a, some b => match acopy R.C h t a b with
          | some (v, h') => some [(v, h', nx)]
          | none => none
        | _, _ => none
      | _, _ => none
    | .builtin _ => none
    | .value f => match ev f, evs ev c.args.toList with
      | some (.func f first caps), some args =>
        if R.clone = some f then acloneMap h nx (first ++ args ++ caps) else call f (first ++ args ++ caps) h nx
      | some (.yield l), some args => round l args h nx
      | _, _ => none
    | .invoke x m => match ev x, evs ev c.args.toList with
      | some (.iface t v), some args => match R.meth.get t with
        | some l => match findMeth l m with
          | some f => call f (v :: args) h nx
          | none => none
        | none => none
      | _, _ => none
  | _ => none

/-- An operation's outcomes. -/
def aop (R : Run) (call : CallF) (round : RoundF) (ev : Ev) (h : T AObj) (nx : Nat) (op : Op) : Option Outs :=
  match kindOf op with
  | 0 => one (apure R.P R.C ev op) h nx
  | 1 => match apure R.P R.C ev op with
    | some a => some [(a, h, nx)]
    | none => one (aread R.P R.C ev h op) h nx
  | 2 => match anew R.C ev op with
    | some (o, mk) => some [(mk nx, h.set nx o, nx + 1)]
    | none => none
  | _ => aeff R call round ev h nx op

def bindOuts {α : Type} (f : AVal × T AObj × Nat → Option (List α)) : Outs → Option (List α)
  | [] => some []
  | o :: l => match f o, bindOuts f l with
    | some x, some y => some (x ++ y)
    | _, _ => none

/-- A region's operations in the order of the text. -/
def runOps (R : Run) (call : CallF) (round : RoundF) (all : List Oper) (dfs : List Nat) (sz : Nat) : List Oper → T AVal → T AObj → Nat → Option (List St)
  | [], tv, h, nx => some [⟨tv, sz, h, nx, dfs⟩]
  | o :: l, tv, h, nx =>
    if wantedA all tv o = true then
      match aop R call round (evOf R.ng tv) h nx o.op with
      | some outs => bindOuts (fun (a, h', nx') => runOps R call round all dfs sz l (putTv tv sz o.dst a) h' nx') outs
      | none => none
    else runOps R call round all dfs sz l (putTv tv sz o.dst noVal) h nx

/-! ### Regions that draw their order: what depends on the text alone comes first -/
structure Node where
  i : Nat
  o : Oper
  kd : Nat
  anc : Nat
  looks : List Tmp

def looksA (ops : List Oper) (o : Oper) : List Tmp :=
  (o.op.operands.toList.filterMap fun | .tmp t => some t | _ => none) ++
  (match o.guard with
   | some (g, _) => ((ops[g]?).bind (·.dst)).toList
   | none => [])

/-- The bits of the operations that must come before one with these edges; acc: the bits of the operations before it. -/
def edgeMask (acc : List Nat) : List Edge → Nat
  | [] => 0
  | e :: l => match Region.binds .any e with
    | true => Nat.lor (Nat.lor (Nat.shiftLeft 1 e.on) (acc.getD e.on 0)) (edgeMask acc l)
    | false => edgeMask acc l

def nodesF (all : List Oper) : Nat → List Nat → List Oper → List Node
  | _, _, [] => []
  | i, acc, o :: l => ⟨i, o, kindOf o.op, edgeMask acc o.after.toList, looksA all o⟩ :: nodesF all (i + 1) (acc ++ [edgeMask acc o.after.toList]) l

def nodes (ops : List Oper) : List Node := nodesF ops 0 [] ops

def sub (a b : Nat) : Bool := Nat.beq (Nat.land a b) a

def effMask : List Node → Nat
  | [] => 0
  | x :: l => match Nat.beq x.kd 3 with
    | true => Nat.lor (Nat.shiftLeft 1 x.i) (effMask l)
    | false => effMask l

def memB (t : Nat) : List Nat → Bool
  | [] => false
  | u :: l => match Nat.beq t u with
    | true => true
    | false => memB t l

/-- What the runner asks of two different operations of a region. -/
def pairOK (x y : Node) : Bool :=
  match Nat.beq x.i y.i with
  | true => true
  | false =>
    (match x.o.dst with
     | some t => match Nat.beq x.kd 3 with
       | true => !memB t y.looks || y.anc.testBit x.i || x.anc.testBit y.i
       | false => (match y.o.dst with | some u => !Nat.beq u t | none => true) && (!memB t y.looks || y.anc.testBit x.i)
     | none => true) &&
    (!y.anc.testBit x.i || sub x.anc y.anc) &&
    (!(Nat.beq x.kd 3 && Nat.beq y.kd 3 && Nat.blt x.i y.i) || y.anc.testBit x.i)

def nodeOK (x : Node) : Bool :=
  (x.o.after.toList.all fun e => !Region.binds .any e || Nat.blt e.on x.i) &&
  (match Nat.beq x.kd 3 with
   | true => true
   | false => match x.o.dst with
     | some t => !memB t x.looks
     | none => false)

def regOK (ns : List Node) : Bool :=
  ns.all fun x => nodeOK x && ns.all fun y => pairOK x y

/-- May the operation be evaluated, once the writing operations p are done? -/
def avl (em : Nat) (p : Option Nat) (x : Node) : Bool :=
  match p with
  | none => false
  | some d => sub (Nat.land x.anc em) d

/-- What is to be evaluated for the first time (true), and what is to be evaluated again, once the writing operations 'done' are done. -/
def todo (em : Nat) (p : Option Nat) (done past : Nat) : List Node → List (Bool × Node)
  | [] => []
  | x :: l => match Nat.beq x.kd 3 || past.testBit x.i || !avl em (some done) x with
    | true => todo em p done past l
    | false => match avl em p x with
      | false => (true, x) :: todo em p done past l
      | true => match x.kd with
        | 0 => todo em p done past l
        | _ => (false, x) :: todo em p done past l

structure Ds where
  tv : T AVal
  h : T AObj
  nx : Nat
  ids : List (Nat × Nat)

def objEq : AObj → AObj → Bool
  | .cells ro es c t, .cells ro' es' c' t' => (match ro, ro' with | true, true | false, false => true | _, _ => false) && Nat.beq es es' && aeqs c c' && Nat.beq t t'
  | .map ro [] a, .map ro' [] b => (match ro, ro' with | true, true | false, false => true | _, _ => false) && Nat.beq a b
  | _, _ => false

def idOf (ids : List (Nat × Nat)) (i : Nat) : Option Nat :=
  match ids with
  | [] => none
  | (j, id) :: l => match Nat.beq j i with
    | true => some id
    | false => idOf l i

def aget (R : Run) (d : Ds) (x : Node) : Option AVal :=
  match x.kd with
  | 0 => apure R.P R.C (evOf R.ng d.tv) x.o.op
  | _ => match apure R.P R.C (evOf R.ng d.tv) x.o.op with
    | some a => some a
    | none => aread R.P R.C (evOf R.ng d.tv) d.h x.o.op

/-- An operation that does not write, for the first time. -/
def first1 (R : Run) (all : List Oper) (sz : Nat) (x : Node) (d : Ds) : Option Ds :=
  match x.o.dst with
  | none => none
  | some t => match Nat.blt t sz with
    | false => none
    | true => match wantedA all d.tv x.o with
      | false => some { d with tv := d.tv.set t noVal }
      | true => match x.kd with
        | 2 => match anew R.C (evOf R.ng d.tv) x.o.op with
          | some (o, mk) => match d.h.get d.nx with
            | none => some { tv := d.tv.set t (mk d.nx), h := d.h.set d.nx o, nx := d.nx + 1, ids := (x.i, d.nx) :: d.ids }
            | some _ => none
          | none => none
        | _ => match aget R d x with
          | some a => some { d with tv := d.tv.set t a }
          | none => none

/-- An operation that does not write would still hand back what it handed back at first. -/
def again1 (R : Run) (all : List Oper) (x : Node) (d : Ds) : Bool :=
  match wantedA all d.tv x.o with
  | false => true
  | true => match x.kd with
    | 2 => match anew R.C (evOf R.ng d.tv) x.o.op, idOf d.ids x.i with
      | some (o, _), some id => match d.h.get id with
        | some o' => objEq o o'
        | none => false
      | _, _ => false
    | _ => match x.o.dst with
      | none => false
      | some t => match aget R d x, d.tv.get t with
        | some a, some b => aeq a b
        | _, _ => false

def settle (R : Run) (all : List Oper) (sz : Nat) : List (Bool × Node) → Ds → Option Ds
  | [], d => some d
  | (true, x) :: l, d => match first1 R all sz x d with
    | some d' => settle R all sz l d'
    | none => none
  | (false, x) :: l, d => match again1 R all x d with
    | true => settle R all sz l d
    | false => none

/-- The region's writing operations, one behind the other; all else is settled between them. -/
def drawGo (R : Run) (call : CallF) (round : RoundF) (all : List Oper) (ns : List Node) (em : Nat) (dfs : List Nat) (sz : Nat) : List Node → Option Nat → Nat → Nat → Ds → Option (List St)
  | [], p, done, past, d => match settle R all sz (todo em p done past ns) d with
    | some d' => some [⟨d'.tv, sz, d'.h, d'.nx, dfs⟩]
    | none => none
  | x :: es, p, done, past, d => match settle R all sz (todo em p done past ns) d with
    | some d' => match wantedA all d'.tv x.o with
      | true => match aeff R call round (evOf R.ng d'.tv) d'.h d'.nx x.o.op with
        | some outs => bindOuts (fun (a, h', nx') => drawGo R call round all ns em dfs sz es (some done) (Nat.lor done (Nat.shiftLeft 1 x.i)) (Nat.lor (Nat.lor past x.anc) (Nat.shiftLeft 1 x.i)) { d' with tv := putTv d'.tv sz x.o.dst a, h := h', nx := nx' }) outs
        | none => none
      | false => drawGo R call round all ns em dfs sz es (some done) (Nat.lor done (Nat.shiftLeft 1 x.i)) (Nat.lor (Nat.lor past x.anc) (Nat.shiftLeft 1 x.i)) { d' with tv := putTv d'.tv sz x.o.dst noVal }
    | none => none

def effs : List Node → List Node
  | [] => []
  | x :: l => match Nat.beq x.kd 3 with
    | true => x :: effs l
    | false => effs l

def drawn (R : Run) (call : CallF) (round : RoundF) (ops : List Oper) (s : St) : Option (List St) :=
  match regOK (nodes ops) with
  | true => drawGo R call round ops (nodes ops) (effMask (nodes ops)) s.dfs s.sz (effs (nodes ops)) none 0 0 ⟨s.tv, s.h, s.nx, []⟩
  | false => none

/-! ### Code -/
abbrev XOuts := List (Ex × St)

def bindX (f : St → Option XOuts) : XOuts → Option XOuts
  | [] => some []
  | (.normal, s) :: l => match f s, bindX f l with
    | some x, some y => some (x ++ y)
    | _, _ => none
  | (e, s) :: l => match bindX f l with
    | some y => some ((e, s) :: y)
    | none => none

def unBlock (id : Nat) : XOuts → XOuts
  | [] => []
  | (.exit k, s) :: l => (if k = id then (.normal, s) else (.exit k, s)) :: unBlock id l
  | (e, s) :: l => (e, s) :: unBlock id l

def normals : List St → XOuts
  | [] => []
  | s :: l => (.normal, s) :: normals l

def args0 (tv : T AVal) : Nat → List AVal → T AVal
  | _, [] => tv
  | i, a :: l => args0 (tv.set i a) (i + 1) l

def setParams (tv : T AVal) (sz : Nat) : List Tmp → List AVal → T AVal
  | p :: ps, a :: l => setParams (putTv tv sz (some p) a) sz ps l
  | _, _ => tv

/-- At the end of an activation: the marks are taken. -/
def takeMarks (h : T AObj) : List Nat → Option (T AObj)
  | [] => some h
  | i :: l => match h.get i with
    | some .deferred => takeMarks (h.del i) l
    | _ => none

def aresult (C : Cfg) (h : T AObj) (tv : T AVal) : ResultVar → Option AVal
  | .tmp t => some ((tv.get t).getD noVal)
  | .cell a t => aload C h t ((tv.get a).getD noVal)

def aresults (C : Cfg) (h : T AObj) (tv : T AVal) : List ResultVar → Option (List AVal)
  | [] => some []
  | x :: l => match aresult C h tv x, aresults C h tv l with
    | some a, some l' => some (a :: l')
    | _, _ => none

def resultOf : List AVal → AVal
  | [a] => a
  | l => .tuple l

def leaveAll (C : Cfg) (fn : Func) : XOuts → Option Outs
  | [] => some []
  | (e, s) :: l => match e with
    | .exit _ => none
    | _ => match takeMarks s.h s.dfs with
      | some h => match aresults C h s.tv fn.results.toList, leaveAll C fn l with
        | some vs, some o => some ((resultOf vs, h, s.nx) :: o)
        | _, _ => none
      | none => none

def jumpCode : Ex → Option Code
  | .normal => none
  | .exit id => some (.exit id)
  | .ret => some .ret

def endRounds (l : Nat) : XOuts → Option Outs
  | [] => some []
  | (e, s) :: rest => match s.h.get l, endRounds l rest with
    | some (.loop _ _ tv sz ps asg body dfr), some o =>
      some ((.bool (match e with | .normal => true | _ => false), s.h.set l (.loop (match e with | .normal => .ready | _ => .done) (jumpCode e) tv sz ps asg body dfr), s.nx) :: o)
    | _, _ => none

def beginRounds (l : Nat) (f : St → Option XOuts) : XOuts → Option XOuts
  | [] => some []
  | (.normal, s) :: rest => match s.h.get l with
    | some (.loop .ready pend tv sz ps asg body dfr) => match f { s with h := s.h.set l (.loop .busy pend tv sz ps asg body dfr) }, beginRounds l f rest with
      | some x, some y => some (x ++ y)
      | _, _ => none
    | _ => none
  | _ :: _ => none

def aroundF (exec : Option Nat → Code → St → Option XOuts) : RoundF := fun l args h nx =>
  match h.get l with
  | some (.loop _ _ tv sz ps asg body _) =>
    if ps.length = args.length then
      match exec (some l) asg ⟨setParams tv sz ps args, sz, h, nx, []⟩ with
      | some o1 => match beginRounds l (fun s => exec (some l) body s) o1 with
        | some o2 => endRounds l o2
        | none => none
      | none => none
    else none
  | _ => none

/-! ### Calls whose outcomes are joined: they run over a heap that may not be written, and only what they make is taken over -/
def roObj : AObj → Option AObj
  | .cells _ es c t => some (.cells true es c t)
  | .map _ es clock => some (.map true es clock)
  | _ => none

def roT : T AObj → T AObj
  | .leaf => .leaf
  | .node l v r => .node (roT l) (match v with | some o => roObj o | none => none) (roT r)

def entsEq : List AEnt → List AEnt → Bool
  | [], [] => true
  | a :: l, b :: m => (match ofV a.key, ofV b.key with | some x, some y => aeq x y | _, _ => false) && aeq a.val b.val && a.born == b.born && entsEq l m
  | _, _ => false

/-- The writable block number i, where both heaps hold it alike. -/
def meetAt (h h' : T AObj) (i : Nat) : Option AObj :=
  match h.get i, h'.get i with
  | some (.cells false es c t), some (.cells false es' c' t') => if es = es' ∧ aeqs c c' = true ∧ t = t' then some (.cells false es c t) else none
  | _, _ => none

/-- What two outcomes have made, numbers nx to nx + n. -/
def takeNew (g : T AObj) (h h' : T AObj) (nx : Nat) : Nat → T AObj
  | 0 => g
  | n + 1 => match meetAt h h' nx with
    | some o => takeNew (g.set nx o) h h' (nx + 1) n
    | none => match g.get nx with
      | none => takeNew g h h' (nx + 1) n
      | some _ => takeNew (g.del nx) h h' (nx + 1) n

def joinOuts (g : T AObj) (nx : Nat) : Outs → Option Outs
  | [(a, h, nx1)] => some [(a, takeNew g h h nx (nx1 - nx), nx1)]
  | [(a, h, nx1), (b, h', nx2)] => if aeq a b = true ∧ nx1 = nx2 then some [(a, takeNew g h h' nx (nx1 - nx), nx1)] else none
  | _ => none

def acallF0 (R : Run) (exec : Option Nat → Code → St → Option XOuts) : CallF := fun f args h nx =>
  match R.C.fn.get f with
  | some fn => match fn.body with
    | some c =>
      if R.join f then
        match exec none c ⟨args0 .leaf 0 args, max fn.ntmps args.length, roT h, nx, []⟩ with
        | some outs => match leaveAll R.C fn outs with
          | some o => joinOuts h nx o
          | none => none
        | none => none
      else
        match exec none c ⟨args0 .leaf 0 args, max fn.ntmps args.length, h, nx, []⟩ with
        | some outs => leaveAll R.C fn outs
        | none => none
    | none => none
  | none => none

/-- A call: by the table of calls with known outcomes, or by its text. -/
def acallF (R : Run) (exec : Option Nat → Code → St → Option XOuts) : CallF := fun f args h nx =>
  match R.tbl f args h nx with
  | some o => some o
  | none => acallF0 R exec f args h nx

/-- Behind a function that was ranged over. -/
def endLoops (l : Nat) (s : St) (dfs : List Nat) (f : Code → St → Option XOuts) : Outs → Option XOuts
  | [] => some []
  | (_, h, nx) :: rest => match h.get l with
    | some (.loop st pend tv sz ps asg body dfr) =>
      match st with
      | .busy => none
      | _ =>
        let s' : St := { s with h := h.set l (.loop .exhausted pend tv sz ps asg body dfr), nx, dfs }
        match (match pend with | none => some [(Ex.normal, s')] | some c => f c s'), endLoops l s dfs f rest with
        | some x, some y => some (x ++ y)
        | _, _ => none
    | _ => none

def arangeFunc (R : Run) (call : CallF) (exec : Option Nat → Code → St → Option XOuts) (rnd : Option Nat) (g : Operand) (ps : List Tmp) (asg body : Code) (s : St) : Option XOuts :=
  match evOf R.ng s.tv g with
  | some (.func f first caps) =>
    match rnd with
    | none =>
      let h1 := s.h.set s.nx .deferred
      let h2 := h1.set (s.nx + 1) (.loop .ready none s.tv s.sz ps asg body s.nx)
      match call f (first ++ [.yield (s.nx + 1)] ++ caps) h2 (s.nx + 2) with
      | some outs => endLoops (s.nx + 1) s (s.nx :: s.dfs) (fun c s' => exec rnd c s') outs
      | none => none
    | some l0 => match s.h.get l0 with
      | some (.loop _ _ _ _ _ _ _ dfr) =>
        let h2 := s.h.set s.nx (.loop .ready none s.tv s.sz ps asg body dfr)
        match call f (first ++ [.yield s.nx] ++ caps) h2 (s.nx + 1) with
        | some outs => endLoops s.nx s s.dfs (fun c s' => exec rnd c s') outs
        | none => none
      | _ => none
  | some (.yield _) => none
  | _ => none

def stepX (R : Run) (exec : Option Nat → Code → St → Option XOuts) (rnd : Option Nat) : Code → St → Option XOuts
  | .skip, s | .label _, s => some [(.normal, s)]
  | .exit id, s => some [(.exit id, s)]
  | .ret, s => some [(.ret, s)]
  | .seq a b, s => match exec rnd a s with
    | some o => bindX (fun s' => exec rnd b s') o
    | none => none
  | .cond c t e, s => match evOf R.ng s.tv c with
    | some (.bool true) => exec rnd t s
    | some (.bool false) => exec rnd e s
    | _ => none
  | .block id body, s => match exec rnd body s with
    | some o => some (unBlock id o)
    | none => none
  | .loop body, s => match exec rnd body s with
    | some o => bindX (fun s' => exec rnd (.loop body) s') o
    | none => none
  | .region _ ops d, s =>
    match (if d then drawn R (acallF R exec) (aroundF exec) ops.toList s else runOps R (acallF R exec) (aroundF exec) ops.toList s.dfs s.sz ops.toList s.tv s.h s.nx) with
    | some l => some (normals l)
    | none => none
  | .rangeFunc g ps asg body, s => arangeFunc R (acallF R exec) exec rnd g ps.toList asg body s
  | _, _ => none

def exec (R : Run) : Nat → Option Nat → Code → St → Option XOuts
  | 0 => fun _ _ _ => none
  | n + 1 => fun rnd c s => stepX R (exec R n) rnd c s

def acall (R : Run) (n : Nat) : CallF := acallF R (exec R n)

end
end Go.Sx
