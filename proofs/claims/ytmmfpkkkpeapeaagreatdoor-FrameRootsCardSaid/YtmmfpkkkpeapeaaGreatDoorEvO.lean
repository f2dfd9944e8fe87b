/- The evaluator itself: registers, operations in order, regions, code, calls, deferred calls, ranges over a function. No condition. -/
import Derived.Test.YtmmfpkkkpeapeaaGreatDoorEvN
import Derived.Recover
import Derived.AtR
set_option linter.unusedSectionVars false
set_option linter.unusedVariables false
namespace Go.Proofs.YtmmfpkkkpeapeaaGreatDoor.Ev
open Go Go.RowKit
noncomputable section
variable [Sym]

structure Regs where
  tmps : Tr Value
  size : Nat
  defers : List Deferred
  mode : FrameMode
def Regs.get (r : Regs) (t : Nat) : Value := (r.tmps.get t).getD undef
def Regs.put (r : Regs) (d : Option Nat) (v : Value) : Regs :=
  match d with
  | none => r
  | some d => match Nat.blt d r.size with
    | true => { r with tmps := Tr.set 40 r.tmps d (some v), size := Nat.add r.size 0 }
    | false => r
def Regs.fill : List Value → Nat → Tr Value → Tr Value
  | [], _, t => t
  | v :: vs, i, t => Regs.fill vs (i + 1) (Tr.set 40 t i (some v))
def Regs.snap (r : Regs) : Array Value := (Array.range r.size).map r.get
structure Ctx where
  fn : Nat
  dfr : Bool
  round : Option Nat
inductive AExit where
  | normal
  | exit (id : Nat)
  | ret
  | panic (chain : List PanicEntry)
inductive Req where
  | call (f : Nat) (args : Array Value)
  | dcall (f : Nat) (args : Array Value) (mode : FrameMode)
  | round (l f : Nat) (tmps : Array Value) (assign body : Code)
inductive AEnd where
  | returned (v : Value)
  | panicked (chain : List PanicEntry)
structure Ans2 where
  fin : AEnd
  mode : FrameMode
inductive Out where
  | val (v : Value)
  | panic (chain : List PanicEntry)
  | defer (d : Deferred)
  | recover
def evOpd (E : Env) (r : Regs) : Operand → Value
  | .tmp t => r.get t
  | .const v => if plainV 6 v then v else .complex .f64 0 0
  | .global g => if g + 16 < E.G then .pointer (some ⟨g, 0, none⟩) else .complex .f64 0 0
  | .func f => .func (.func f) #[] #[]
def evWanted (ops : Array Oper) (r : Regs) (o : Oper) : Option Bool :=
  match o.guard with
  | none => some true
  | some (j, want) =>
    match (ops[j]?).bind (·.dst) with
    | none => some false
    | some d =>
      match r.get d with
      | .bool b => some (b == want)
      | .complex _ _ _ => none
      | _ => some false
def endOut : AEnd → Out
  | .returned v => .val v
  | .panicked ch => .panic ch
def evOut (E : Env) (X : Ext) (rec : Req → LM Ans2) (ops : Array Oper) (r : Regs) (o : Oper) : LM Out := do
  let wt ← LM.ofOption (evWanted ops r o)
  match wt with
  | false => pure (.val undef)
  | true => do
    let n ← aExecF E X (evOpd E r) o
    match n with
    | .value v => pure (.val v)
    | .skip => pure (.val undef)
    | .defer d => pure (.defer d)
    | .panic v => pure (.panic [{ v := v, recovered := false }])
    | .recover => pure .recover
    | .enter f args => do
      let a ← rec (.call f args)
      pure (endOut a.fin)
    | .round l f tmps assign body => do
      let a ← rec (.round l f tmps assign body)
      pure (endOut a.fin)
def recA : FrameMode → Value × FrameMode
  | .panicking ({ v := v, recovered := false, goexit := false } :: older) => (v, .panicking ({ v := v, recovered := true } :: older))
  | m => (.nilIface, m)
def evOp (E : Env) (X : Ext) (rec : Req → LM Ans2) (ctx : Ctx) (ops : Array Oper) (o : Oper) (r : Regs) : LM (AExit × Regs) := do
  let x ← evOut E X rec ops r o
  match x with
  | .val v => pure (.normal, r.put o.dst v)
  | .panic ch => pure (.panic ch, r)
  | .defer d => do
    LM.guard ctx.round.isNone
    pure (.normal, ({ r with defers := d :: r.defers } : Regs).put o.dst undef)
  | .recover => do
    LM.guard (ctx.dfr && ctx.round.isNone)
    let q := recA r.mode
    pure (.normal, ({ r with mode := q.2 } : Regs).put o.dst q.1)
def evOps (E : Env) (X : Ext) (rec : Req → LM Ans2) (ctx : Ctx) (ops : Array Oper) : List Oper → Regs → LM (AExit × Regs)
  | [], r => pure (.normal, r)
  | o :: rest, r => do
    let p ← evOp E X rec ctx ops o r
    match p.1 with
    | .normal => evOps E X rec ctx ops rest p.2
    | e => pure (e, p.2)
structure Info where
  rd : List Nat
  wr : List Nat
  lo : Nat
  hi : Nat
def evDraws (E : Env) (X : Ext) (rec : Req → LM Ans2) (ops : Array Oper) : List Oper → Regs → LM (Option (List PanicEntry) × Regs × List Info)
  | [], r => pure (none, r, [])
  | o :: rest, r => do
    let n0 ← LM.mark
    let q ← LM.told (evOut E X rec ops r o)
    let n1 ← LM.mark
    match q.1 with
    | .val v => do
      let p ← evDraws E X rec ops rest (r.put o.dst v)
      pure (p.1, p.2.1, ⟨q.2.1, q.2.2, n0, n1⟩ :: p.2.2)
    | .panic ch => pure (some ch, r, [⟨q.2.1, q.2.2, n0, n1⟩])
    | _ => LM.fail
/-- What an operation looks at: its operands' slots, its guard's. -/
def looks (ops : Array Oper) (o : Oper) : List Nat := o.looksAt ops
def meets (a : Info) (l : List Nat) : Bool := l.any fun b => a.wr.contains b || (decide (a.lo ≤ b) && decide (b < a.hi))
/-- Two operations in text order whose order doesn't matter. -/
def apartI (a b : Info) : Bool := !meets a b.rd && !meets a b.wr && !meets b a.rd && !meets b a.wr
def apartO (ops : Array Oper) (x y : Oper) : Bool :=
  (match x.dst with
   | some d => !(looks ops y).contains d && decide (y.dst ≠ some d)
   | none => true) &&
  (match y.dst with
   | some d => !(looks ops x).contains d
   | none => true)
def allPairs (p : Nat → Nat → Bool) (m : Nat) : Bool := (List.range m).all fun j => (List.range j).all fun i => p i j
def plainEdges (ops : Array Oper) : Bool := (List.range ops.size).all fun i => match ops[i]? with
  | some o => o.after.toList.all fun e => !Region.binds .any e || decide (e.on < i)
  | none => false
def drawOk (ops : Array Oper) (bs : Array Nat) (infos : List Info) (q : Nat) : Bool :=
  allPairs (fun i j => (bs.getD j 0).testBit i ||
    (match infos[i]?, infos[j]?, ops[i]?, ops[j]? with
     | some a, some b, some x, some y => apartI a b && apartO ops x y
     | _, _, _, _ => false)) q
/-- An operation that neither looks at a block nor turns one, nor makes one. -/
def Info.quiet (a : Info) : Bool := a.rd.isEmpty && a.wr.isEmpty && Nat.beq a.lo a.hi
/-- The operations with their places and what lies before each. -/
def statL : List Oper → List Nat → Nat → List (Nat × Oper × Nat)
  | [], _, _ => []
  | o :: os, [], i => (i, o, 0) :: statL os [] (Nat.add i 1)
  | o :: os, b :: bs, i => (i, o, b) :: statL os bs (Nat.add i 1)
def statGo (ops : Array Oper) : List (Nat × Oper × Nat) → Bool
  | [] => true
  | p :: l => (l.all fun q => q.2.2.testBit p.1 || apartO ops p.2.1 q.2.1) && statGo ops l
def staticOk (ops : Array Oper) (bs : Array Nat) (q : Nat) : Bool := statGo ops ((statL ops.toList bs.toList 0).take q)
def loud : List Info → Nat → List (Nat × Info)
  | [], _ => []
  | a :: l, i => match a.quiet with
    | true => loud l (Nat.add i 1)
    | false => (i, a) :: loud l (Nat.add i 1)
def loudOk (bs : Array Nat) : List (Nat × Info) → Bool
  | [] => true
  | p :: l => (l.all fun q => (bs.getD q.1 0).testBit p.1 || apartI p.2 q.2) && loudOk bs l
/-- 'drawOk', by parts: what hangs on the text alone, what the loud ones do. -/
def drawFast (ops : Array Oper) (bs : Array Nat) (infos : List Info) (q : Nat) : Bool := staticOk ops bs q && loudOk bs (loud infos 0)
def tiedTo (ops : Array Oper) (bs : Array Nat) (p : Nat) : Bool :=
  (List.range ops.size).all fun j => decide (j = p) || (bs.getD p 0).testBit j || (bs.getD j 0).testBit p
def befS : List Edge → Nat → Tr Nat → Nat
  | [], s, _ => s
  | e :: l, s, t => match Region.binds .any e with
    | true => befS l (Nat.lor (Nat.lor s (Nat.pow 2 e.on)) ((t.get e.on).getD 0)) t
    | false => befS l s t
def befF : List Oper → Nat → Tr Nat → List Nat
  | [], _, _ => []
  | o :: os, i, t => befS o.after.toList 0 t :: befF os (Nat.add i 1) (Tr.set 40 t i (some (befS o.after.toList 0 t)))
def beforeF (ops : Array Oper) : Array Nat := match decide (ops.size < 1000000) with
  | true => (befF ops.toList 0 .nil).toArray
  | false => Region.before ops
def evRegion (E : Env) (X : Ext) (rec : Req → LM Ans2) (ctx : Ctx) (ops : Array Oper) (draw : Bool) (r : Regs) : LM (AExit × Regs) :=
  match draw with
  | false => evOps E X rec ctx ops ops.toList r
  | true => do
    LM.guard (plainEdges ops)
    let p ← evDraws E X rec ops ops.toList r
    let bs := beforeF ops
    match p.1 with
    | none => do
      LM.guard (drawFast ops bs p.2.2 ops.size)
      pure (.normal, p.2.1)
    | some ch => do
      LM.guard (drawFast ops bs (p.2.2.take (p.2.2.length - 1)) (p.2.2.length - 1) && tiedTo ops bs (p.2.2.length - 1))
      pure (.panic ch, p.2.1)
def iter (f : Regs → LM (AExit × Regs)) : Nat → Regs → LM (AExit × Regs)
  | 0, _ => LM.fail
  | n + 1, r => do
    let p ← f r
    match p.1 with
    | .normal => iter f n p.2
    | e => pure (e, p.2)
def evRange (E : Env) (X : Ext) (rec : Req → LM Ans2) (ctx : Ctx) (f : Operand) (ps : Array Tmp) (assign body : Code) (r : Regs) : LM (AExit × Regs) := do
  LM.guard ctx.round.isNone
  let d ← LM.new (.other (.deferred (some [])))
  let l ← LM.new (.other (.loop { state := .ready, pending := none, fn := ctx.fn, tmps := r.snap, params := ps, assign := assign, body := body, defers := d }))
  let r2 : Regs := { r with defers := { target := .collected d, args := #[] } :: r.defers }
  match evOpd E r f with
  | .func fn first cap => do
    let n ← aInvoke E X { target := .fn fn cap, args := first ++ #[.func (.yield l) #[] #[]] }
    match n with
    | .enter g args => do
      let a ← rec (.call g args)
      match a.fin with
      | .panicked ch => pure (.panic ch, r2)
      | .returned _ => do
        match ← LM.look l with
        | .other (.loop rc) => do
          LM.guard (decide (E.G ≤ l) && rc.state != .busy)
          LM.put l (some (.other (.loop { rc with state := .exhausted })))
          match rc.pending with
          | none => pure (.normal, r2)
          | some .ret => pure (.ret, r2)
          | some (.exit id) => pure (.exit id, r2)
          | some _ => LM.fail
        | _ => LM.fail
    | _ => LM.fail
  | _ => LM.fail
def evCode (E : Env) (X : Ext) (rec : Req → LM Ans2) (N : Nat) (ctx : Ctx) : Code → Regs → LM (AExit × Regs)
  | .skip, r => pure (.normal, r)
  | .label _, r => pure (.normal, r)
  | .ret, r => pure (.ret, r)
  | .exit id, r => pure (.exit id, r)
  | .region _ ops draw, r => evRegion E X rec ctx ops draw r
  | .seq x y, r => do
    let p ← evCode E X rec N ctx x r
    match p.1 with
    | .normal => evCode E X rec N ctx y p.2
    | e => pure (e, p.2)
  | .cond c x y, r =>
    match evOpd E r c with
    | .bool true => evCode E X rec N ctx x r
    | .bool false => evCode E X rec N ctx y r
    | _ => LM.fail
  | .block id c, r => do
    let p ← evCode E X rec N ctx c r
    match p.1 with
    | .exit id' => if id' = id then pure (.normal, p.2) else pure (.exit id', p.2)
    | e => pure (e, p.2)
  | .loop c, r => iter (evCode E X rec N ctx c) N r
  | .scope c, r => evCode E X rec N ctx c r
  | .rangeFunc f ps assign body, r => evRange E X rec ctx f ps assign body r
  | _, _ => LM.fail
/-- The result variables, read. -/
def evResults (E : Env) (r : Regs) : List ResultVar → LM (List Value)
  | [] => pure []
  | .tmp t :: l => do
    let vs ← evResults E r l
    pure (r.get t :: vs)
  | .cell a t :: l => do
    let v ← aLoad E t (r.get a)
    let vs ← evResults E r l
    pure (v :: vs)
def oneOf (vs : List Value) : Value :=
  match vs with
  | [v] => v
  | vs => .tuple vs.toArray
def settleA : FrameMode → FrameMode
  | .panicking ({ recovered := true, .. } :: older) =>
    match older.dropWhile (!·.goexit) with
    | [] => .returning
    | rest => .panicking rest
  | m => m
def raisedA (u : FrameMode) (chain : List PanicEntry) : FrameMode :=
  match u with
  | .panicking old => .panicking (chain ++ old)
  | _ => .panicking chain
def notRun : FrameMode → Bool
  | .run => false
  | _ => true
/-- The deferred calls, one after the other. -/
def evLeaves (E : Env) (X : Ext) (rec : Req → LM Ans2) : Nat → List Deferred → FrameMode → LM FrameMode
  | 0, _, _ => LM.fail
  | _ + 1, [], u => pure u
  | n + 1, d :: ds, u =>
    match d.target with
    | .collected b => do
      match ← LM.look b with
      | .other (.deferred (some calls)) => do
        LM.guard (decide (E.G ≤ b))
        LM.put b (some (.other (.deferred none)))
        evLeaves E X rec n (calls ++ ds) u
      | _ => LM.fail
    | _ => do
      match ← aInvoke E X d with
      | .enter f args => do
        let a ← rec (.dcall f args u)
        LM.guard (notRun a.mode)
        match a.fin with
        | .returned _ => evLeaves E X rec n ds (settleA a.mode)
        | .panicked ch => evLeaves E X rec n ds (raisedA a.mode ch)
      | _ => LM.fail
def evEnd (E : Env) (X : Ext) (rec : Req → LM Ans2) (N : Nat) (fn : Func) (p : AExit × Regs) : LM Ans2 := do
  let u ← LM.ofOption (match p.1 with
    | .normal => some FrameMode.returning
    | .ret => some FrameMode.returning
    | .panic ch => some (FrameMode.panicking ch)
    | .exit _ => none)
  let u2 ← evLeaves E X rec N p.2.defers u
  match u2 with
  | .returning => do
    let vs ← evResults E p.2 fn.results.toList
    pure ⟨.returned (oneOf vs), p.2.mode⟩
  | .panicking ch => pure ⟨.panicked ch, p.2.mode⟩
  | .run => LM.fail
def enterRegs (args : Array Value) (n : Nat) (u : FrameMode) : Regs := { tmps := Regs.fill args.toList 0 .nil, size := n, defers := [], mode := u }
def evFn (E : Env) (X : Ext) (rec : Req → LM Ans2) (N : Nat) (dfr : Bool) (f : Nat) (args : Array Value) (u : FrameMode) : LM Ans2 := do
  let fn ← LM.ofOption (E.fn f)
  match fn.body with
  | none => LM.fail
  | some c => do
    LM.guard (decide (args.size ≤ fn.ntmps ∧ fn.ntmps < 1000000))
    let p ← evCode E X rec N ⟨f, dfr, none⟩ c (enterRegs args fn.ntmps u)
    evEnd E X rec N fn p
def evRound (E : Env) (X : Ext) (rec : Req → LM Ans2) (N : Nat) (l f : Nat) (tmps : Array Value) (assign body : Code) : LM Ans2 := do
  LM.guard (decide (tmps.size < 1000000))
  let _ ← LM.ofOption (E.fn f)
  let p ← evCode E X rec N ⟨f, false, some l⟩ assign (enterRegs tmps tmps.size .run)
  match p.1 with
  | .normal => do
    match ← LM.look l with
    | .other (.loop rc) => do
      LM.guard (rc.state == .ready && decide (E.G ≤ l))
      LM.put l (some (.other (.loop { rc with state := .busy })))
      let q ← evCode E X rec N ⟨f, false, some l⟩ body p.2
      match q.1 with
      | .panic ch => do
        LM.guard q.2.defers.isEmpty
        pure ⟨.panicked ch, .run⟩
      | e => do
        let jump : Option Code := match e with
          | .normal => none
          | .ret => some .ret
          | .exit id => some (.exit id)
          | .panic _ => none
        match ← LM.look l with
        | .other (.loop rc) => do
          LM.put l (some (.other (.loop { rc with state := if jump.isNone then .ready else .done, pending := jump })))
          pure ⟨.returned (.bool jump.isNone), .run⟩
        | _ => LM.fail
    | _ => LM.fail
  | _ => LM.fail
def evReq (E : Env) (X : Ext) (N : Nat) (rec : Req → LM Ans2) : Req → LM Ans2
  | .call f args => evFn E X rec N false f args .run
  | .dcall f args u => evFn E X rec N true f args u
  | .round l f tmps assign body => evRound E X rec N l f tmps assign body
def ev (E : Env) (X : Ext) (N : Nat) (n : Nat) : Req → LM Ans2 :=
  Nat.rec (fun _ => LM.fail) (fun _ rec => evReq E X N rec) n
end
end Go.Proofs.YtmmfpkkkpeapeaaGreatDoor.Ev
