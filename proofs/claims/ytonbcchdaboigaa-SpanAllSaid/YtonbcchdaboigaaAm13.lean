/-
  The abstract machine: regions that draw their order; definitions.
-/
import Derived.Test.YtonbcchdaboigaaAm12
namespace Go.Am
open Go Go.RowKit
set_option linter.unusedVariables false
noncomputable section

structure Step where
  o : Oper
  a : AAct
  s : AState
  t : AState
  on : Bool
  v : AVal

def big : Nat := 1099511627800

def setLow (s : AState) (l : Nat) : AState :=
  match s with
  | ⟨h, n, _, r⟩ => ⟨h, n, l, r⟩

def stepOne (P : Program) (rec : Rec) (ops : List Oper) (o : Oper) (a : AAct) (s : AState) : R Step := do
  let w ← wantedA ops a o
  bif w then do
    let p ← execA P rec (aev a) o (setLow s big)
    .ok ⟨o, a, s, p.2, true, p.1⟩
  else .ok ⟨o, a, s, setLow s big, false, aundef⟩

def joinLow (s t : AState) : AState :=
  match s, t with
  | ⟨_, _, l, _⟩, ⟨h, n, m, r⟩ => forceN (Nat.min l m) fun l => ⟨h, n, l, r⟩

def traceOps (P : Program) (rec : Rec) (ops : List Oper) : List Oper → AAct → AState → R (List Step × AAct × AState)
  | [], a, s => .ok ([], a, s)
  | o :: r, a, s => do
    let st ← stepOne P rec ops o a s
    let a' ← a.put o.dst st.v
    let p ← traceOps P rec ops r a' (joinLow s st.t)
    .ok (st :: p.1, p.2.1, p.2.2)

/-- The operations that come before each one, as bits. -/
def befOf (acc : List Nat) (o : Oper) : Nat :=
  o.after.toList.foldl (fun s e => bif Region.binds .any e then Nat.lor s (Nat.lor (Nat.shiftLeft 1 e.on) (acc.getD e.on 0)) else s) 0

def befAll : List Oper → List Nat → List Nat
  | [], acc => acc
  | o :: r, acc => befAll r (acc ++ [befOf acc o])

def ordered (bs : List Nat) (i j : Nat) : Bool := bif Nat.blt i j then Nat.testBit (bs.getD j 0) i else bif Nat.blt j i then Nat.testBit (bs.getD i 0) j else true

def edgesBack (ops : List Oper) : Bool := ops.zipIdx.all fun (o, j) => o.after.toList.all fun e => !Region.binds .any e || Nat.blt e.on j

def looks (ops : List Oper) (o : Oper) : List Tmp :=
  (o.op.operands.toList.filterMap fun x => match x with | .tmp t => some t | _ => none) ++
  (match o.guard with
   | some (g, _) => ((nthOp ops g).bind (·.dst)).toList
   | none => [])

def tmpsOk (ops : List Oper) (bs : List Nat) : Bool :=
  ops.zipIdx.all fun (o, i) => match o.dst with
    | none => true
    | some d => ops.zipIdx.all fun (o', j) => Nat.beq i j || (!(o'.dst == some d) && (!(looks ops o').contains d || ordered bs i j))

def noSel (ops : List Oper) : Bool := ops.all fun o => match o.op with | .select _ _ => false | _ => true

def regStatic (ops : List Oper) : Bool := noSel ops && edgesBack ops && tmpsOk ops (befAll ops [])

def isW (st : Step) : Bool := st.on && Nat.blt st.t.low st.s.next

/-- An operation that never looks at memory. -/
def pureOp : Op → Bool
  | .move _ | .assign _ | .pick .. | .build .. | .nilCheck _ | .binOp .. | .unOp .. | .convert .. | .makeFunc .. | .slice .. | .fieldAddr .. | .field .. | .indexAddr .. | .index .. | .extract .. => true
  | _ => false

def sameLit : Value → Value → Bool
  | .bool a, .bool b => a == b
  | .int k a, .int j b => decide (k = j) && decide (a = b)
  | .pointer none, .pointer none => true
  | .slice none a b, .slice none c d => Nat.beq a c && Nat.beq b d
  | .map none, .map none => true
  | .nilFunc, .nilFunc => true
  | _, _ => false

def sameCell : AVal → AVal → Bool
  | .lit v, .lit w => sameLit v w
  | .sym i, .sym j => Nat.beq i j
  | .ptr a b, .ptr c d => Nat.beq a c && Nat.beq b d
  | .slice a b c (.known k), .slice d e f (.known j) => Nat.beq a d && Nat.beq b e && Nat.beq c f && Nat.beq k j
  | .slice a b c (.grown k), .slice d e f (.grown j) => Nat.beq a d && Nat.beq b e && Nat.beq c f && Nat.beq k j
  | .map a, .map b => Nat.beq a b
  | _, _ => false

def sameCells : List AVal → List AVal → Bool
  | [], [] => true
  | a :: r, b :: q => sameCell a b && sameCells r q
  | _, _ => false

def sameBlock : Option AObj → Option AObj → Bool
  | some (.cells a g), some (.cells b h) => sameCells a b && g == h
  | _, _ => false

/-- The block that a load reads. -/
def loadBlock (st : Step) : Option Nat :=
  match st.o.op with
  | .load _ x => match aev st.a x with
    | .ok (.ptr b _) => some b
    | _ => none
  | _ => none

def okPair (bs : List Nat) (w : Step) (i : Nat) (x : Step) (j : Nat) : Bool :=
  Nat.beq i j || !x.on || pureOp x.o.op || ordered bs i j || (match loadBlock x with
    | some b => sameBlock (w.s.heap.get b) (w.t.heap.get b)
    | none => false)

def dynOk (bs : List Nat) (l : List Step) : Bool :=
  l.zipIdx.all fun (w, i) => !isW w || l.zipIdx.all fun (x, j) => okPair bs w i x j

def drawRun (P : Program) (rec : Rec) (ops : List Oper) (a : AAct) (s : AState) : R (AAct × AState) := do
  guardR (regStatic ops) "region"
  let p ← traceOps P rec ops ops a s
  guardR (dynOk (befAll ops []) p.1) "region: order"
  .ok (p.2.1, p.2.2)

end
end Go.Am
