/-
  The abstract machine: a deterministic evaluator of the model's code over a heap of numbered blocks; definitions only.
-/
import Derived.Orders
import Derived.Below
import Derived.ScopeJumps
import Derived.Deep.MidRow
import Derived.Laws.StructEq
import Derived.IntWalk

namespace Go.Am
open Go
set_option linter.unusedVariables false
set_option linter.unusedSimpArgs false
noncomputable section

/-! ### Finite maps keyed by numbers -/
inductive Tr (α : Type) where
  | leaf
  | node (l : Tr α) (v : Option α) (r : Tr α)
deriving Inhabited

def Tr.get {α : Type} (t : Tr α) : Nat → Option α :=
  Tr.rec (motive := fun _ => Nat → Option α) (fun _ => none)
    (fun _ v _ ihl ihr k => Nat.casesOn (motive := fun _ => Option α) k v fun k => cond (Nat.beq (Nat.land k (nat_lit 1)) (nat_lit 0)) (ihl (Nat.shiftRight k (nat_lit 1))) (ihr (Nat.shiftRight k (nat_lit 1)))) t

/-- `c` of the map in which `k` has `a`. -/
def Tr.setK {α β : Type} (a : Option α) (f : Nat) : Tr α → Nat → (Tr α → β) → β :=
  Nat.rec (motive := fun _ => Tr α → Nat → (Tr α → β) → β) (fun t _ c => c t)
    (fun _ ih t k c => Tr.casesOn (motive := fun _ => β) t
      (Nat.casesOn (motive := fun _ => β) k (c (.node .leaf a .leaf)) fun k => cond (Nat.beq (Nat.land k (nat_lit 1)) (nat_lit 0)) (ih .leaf (Nat.shiftRight k (nat_lit 1)) fun t => c (.node t none .leaf))
        (ih .leaf (Nat.shiftRight k (nat_lit 1)) fun t => c (.node .leaf none t)))
      (fun l v r => Nat.casesOn (motive := fun _ => β) k (c (.node l a r)) fun k => cond (Nat.beq (Nat.land k (nat_lit 1)) (nat_lit 0)) (ih l (Nat.shiftRight k (nat_lit 1)) fun t => c (.node t v r))
        (ih r (Nat.shiftRight k (nat_lit 1)) fun t => c (.node l v t)))) f

/-! ### Values, blocks, states -/
inductive ACap where
  | known (n : Nat)
  | grown (esz : Nat)
deriving Inhabited

inductive AVal where
  | lit (v : Value)
  | sym (i : Nat)
  | ptr (b off : Nat)
  | slice (b off len : Nat) (cap : ACap)
  | map (b : Nat)
  | clo (f : FuncId) (caps : List AVal)
  | agg (cs : List AVal)
  | tup (vs : List AVal)
deriving Inhabited

structure AEntry where
  key : Value
  val : AVal
  born : Nat
deriving Inhabited

inductive AObj where
  | cells (cs : List AVal) (grown : Bool)
  | map (es : List AEntry) (clock : Nat)
  | iter (m : Option Nat) (since : Nat) (seen : List Nat) (stepped : Nat)
deriving Inhabited

structure AState where
  heap : Tr AObj
  next : Nat
  low : Nat
  ro : Nat
deriving Inhabited

structure AAct where
  tmps : Tr AVal
  n : Nat
deriving Inhabited

inductive R (α : Type) where
  | ok (a : α)
  | fail (w : String)
deriving Inhabited

def R.bind {α β : Type} (x : R α) (f : α → R β) : R β :=
  match x with
  | .ok a => f a
  | .fail w => .fail w

instance : Monad R where
  pure := R.ok
  bind := R.bind

def R.of {α : Type} (w : String) : Option α → R α
  | some a => .ok a
  | none => .fail w

def guardR (b : Bool) (w : String) : R Unit := match b with | true => .ok () | false => .fail w

inductive ANext where
  | val (v : AVal)
  | enter (f : FuncId) (args : List AVal)
  | choose (n : Nat) (k : Nat → R (AVal × AState))
deriving Inhabited

def aundef : AVal := .tup []

def AVal.cells : AVal → List AVal
  | .agg cs => cs
  | v => [v]

/-- A value of one cell. -/
def vOne : Value → Bool
  | .agg _ | .tuple _ => false
  | _ => true

/-- A closed value's reading. -/
def ofVal : Value → Option AVal
  | .agg cs => bif cs.toList.all vOne then some (.agg (cs.toList.map .lit)) else none
  | .tuple vs => match vs.toList with | [] => some (.tup []) | _ => none
  | v => some (.lit v)

def litsOf : List AVal → Option (List Value)
  | [] => some []
  | .lit v :: r => match litsOf r with | some l => some (v :: l) | none => none
  | _ :: _ => none

/-- The value that an abstract value is, where nothing of it lies in memory. -/
def toVal : AVal → Option Value
  | .lit v => some v
  | .agg cs => match litsOf cs with | some l => some (.agg l.toArray) | none => none
  | _ => none

/-- The answer of a run that asks nothing of memory. -/
def pureRun (P : Program) {α : Type} : Sem α → Option α
  | .pure a => some a
  | .program k => pureRun P (k P)
  | .mark _ k => pureRun P k
  | _ => none

/-! ### What is written is worked out first -/
def forceN {β : Type} (n : Nat) (c : Nat → β) : β :=
  match n with
  | .zero => c (nat_lit 0)
  | .succ m => c (Nat.succ m)

def forceI {β : Type} (n : Int) (c : Int → β) : β :=
  match n with
  | .ofNat m => forceN m fun m => c (.ofNat m)
  | .negSucc m => forceN m fun m => c (.negSucc m)

def forceB {β : Type} (b : Bool) (c : Bool → β) : β :=
  match b with
  | true => c true
  | false => c false

def forceLit {β : Type} (v : Value) (c : Value → β) : β :=
  match v with
  | .int k n => forceI n fun n => c (.int k n)
  | .bool b => forceB b fun b => c (.bool b)
  | .float k n => forceN n fun n => c (.float k n)
  | .complex k n m => forceN n fun n => forceN m fun m => c (.complex k n m)
  | v => c v

def forceCell {β : Type} (v : AVal) (c : AVal → β) : β :=
  match v with
  | .lit v => forceLit v fun v => c (.lit v)
  | .ptr b o => forceN b fun b => forceN o fun o => c (.ptr b o)
  | .slice b o n (.known k) => forceN b fun b => forceN o fun o => forceN n fun n => forceN k fun k => c (.slice b o n (.known k))
  | .slice b o n (.grown k) => forceN b fun b => forceN o fun o => forceN n fun n => forceN k fun k => c (.slice b o n (.grown k))
  | .map b => forceN b fun b => c (.map b)
  | v => c v

def forceCells {β : Type} : List AVal → (List AVal → β) → β
  | [], c => c []
  | v :: r, c => forceCell v fun v => forceCells r fun r => c (v :: r)

def forceW {β : Type} (v : AVal) (c : AVal → β) : β :=
  match v with
  | .agg cs => forceCells cs fun cs => c (.agg cs)
  | .clo f cs => forceCells cs fun cs => c (.clo f cs)
  | v => forceCell v c

def forceWs {β : Type} : List AVal → (List AVal → β) → β
  | [], c => c []
  | v :: r, c => forceW v fun v => forceWs r fun r => c (v :: r)

def forceV {β : Type} (v : AVal) (c : AVal → β) : β :=
  match v with
  | .tup vs => forceWs vs fun vs => c (.tup vs)
  | v => forceW v c

def forceE {β : Type} (e : AEntry) (c : AEntry → β) : β :=
  match e with
  | ⟨k, v, n⟩ => forceLit k fun k => forceV v fun v => forceN n fun n => c ⟨k, v, n⟩

def forceEs {β : Type} : List AEntry → (List AEntry → β) → β
  | [], c => c []
  | e :: r, c => forceE e fun e => forceEs r fun r => c (e :: r)

def forceNs {β : Type} : List Nat → (List Nat → β) → β
  | [], c => c []
  | e :: r, c => forceN e fun e => forceNs r fun r => c (e :: r)

def forceO {β : Type} (o : AObj) (c : AObj → β) : β :=
  match o with
  | .cells cs g => forceCells cs fun cs => forceB g fun g => c (.cells cs g)
  | .map es n => forceEs es fun es => forceN n fun n => c (.map es n)
  | .iter m s l k => forceN s fun s => forceNs l fun l => forceN k fun k => c (.iter m s l k)

/-! Blocks whose parts are worked out already: their spines alone. -/
def spine {α β : Type} : List α → (List α → β) → β
  | [], c => c []
  | x :: r, c => spine r fun r => c (x :: r)

def spineEs {β : Type} : List AEntry → (List AEntry → β) → β
  | [], c => c []
  | ⟨k, v, n⟩ :: r, c => forceN n fun n => spineEs r fun r => c (⟨k, v, n⟩ :: r)

def slimO {β : Type} (o : AObj) (c : AObj → β) : β :=
  match o with
  | .cells cs g => spine cs fun cs => c (.cells cs g)
  | .map es n => spineEs es fun es => forceN n fun n => c (.map es n)
  | o => forceO o c

/-! ### Memory -/
def AState.get (s : AState) (b : Nat) : R AObj := R.of "no such block" (s.heap.get b)

/-- Every number of a block is below this. -/
def lim : Nat := 549755813888

def AState.alloc (s : AState) (o : AObj) : R AState :=
  match s with
  | ⟨h, n, l, ro⟩ => cond (Nat.ble n lim) (forceO o fun o => Tr.setK (some o) 40 h n fun h => forceN (Nat.succ n) fun n => .ok ⟨h, n, l, ro⟩) (.fail "too many blocks")

def AState.allocS (s : AState) (o : AObj) : R AState :=
  match s with
  | ⟨h, n, l, ro⟩ => cond (Nat.ble n lim) (slimO o fun o => Tr.setK (some o) 40 h n fun h => forceN (Nat.succ n) fun n => .ok ⟨h, n, l, ro⟩) (.fail "too many blocks")

def AState.put (s : AState) (b : Nat) (o : Option AObj) : R AState :=
  match s with
  | ⟨h, n, l, ro⟩ => cond (Nat.ble b lim) (Tr.setK o 40 h b fun h => forceN (Nat.min l b) fun l => .ok ⟨h, n, l, ro⟩) (.fail "no such block")

def AState.write (s : AState) (b : Nat) (o : AObj) : R AState :=
  cond (Nat.ble s.ro b) (slimO o fun o => s.put b (some o)) (.fail "a write to what was handed in")

def getCells (s : AState) (b : Nat) : R (List AVal) := do
  match ← s.get b with
  | .cells cs _ => .ok cs
  | _ => .fail "cells expected"

def nth : List AVal → Nat → R AVal
  | [], _ => .fail "no such cell"
  | v :: r, i => match i with
    | .zero => .ok v
    | .succ i => nth r i

def takeN (l : List AVal) (o n : Nat) : R (List AVal) :=
  let r := (l.drop o).take n
  bif Nat.beq r.length n then .ok r else .fail "not so many cells"

/-- `vs` over the cells from `o` on. -/
def splice (l : List AVal) (o : Nat) (vs : List AVal) : List AVal := l.take o ++ vs ++ l.drop (o + vs.length)

def isAggD : TypeDesc → Bool
  | .struct _ | .array _ _ => true
  | _ => false

def und (P : Program) (t : TypeId) : R TypeDesc := R.of "no such type" (P.underlying t)
def szOf (P : Program) (t : TypeId) : R Nat := R.of "no such type" ((P.info? t).map (·.size))
def byOf (P : Program) (t : TypeId) : R Nat := R.of "no such type" ((P.info? t).map (·.bytes))
def zeroOf (P : Program) (t : TypeId) : R AVal := R.of "no zero" (((P.info? t).bind (·.zero)).bind ofVal)

def loadA (P : Program) (s : AState) (t : TypeId) (b o : Nat) : R AVal := do
  let cs ← getCells s b
  let d ← und P t
  bif isAggD d then do
    let n ← szOf P t
    let l ← takeN cs o n
    .ok (.agg l)
  else nth cs o

def AVal.oneCell : AVal → Bool
  | .agg _ | .tup _ => false
  | _ => true

def storeCellsA (s : AState) (b o : Nat) (vs : List AVal) : R AState := do
  match ← s.get b with
  | .cells cs g =>
    guardR (Nat.ble (o + vs.length) cs.length && vs.all AVal.oneCell) "store: no such cells"
    s.write b (.cells (splice cs o vs) g)
  | _ => .fail "cells expected"

def storeA (P : Program) (s : AState) (t : TypeId) (b o : Nat) (v : AVal) : R AState := do
  let n ← szOf P t
  guardR (Nat.beq v.cells.length n) "store: size"
  storeCellsA s b o v.cells

/-! ### Operations -/
def aev (a : AAct) : Operand → R AVal
  | .tmp t => match a.tmps.get t with
    | some v => .ok v
    | none => .fail "an unset temporary"
  | .const v => R.of "a constant" (ofVal v)
  | .global _ => .fail "a global"
  | .func f => .ok (.clo f [])

def asNatLit : AVal → R (IntKind × Int)
  | .lit (.int k n) => .ok (k, n)
  | _ => .fail "int expected"

def asBoolLit : AVal → R Bool
  | .lit (.bool b) => .ok b
  | _ => .fail "bool expected"

def asPtr : AVal → R (Nat × Nat)
  | .ptr b o => .ok (b, o)
  | _ => .fail "pointer expected"

def litV (v : Option Value) : R AVal := do
  let v ← R.of "not pure" v
  R.of "not a closed value" (ofVal v)

/-- `fill` over abstract cells. -/
def afill (place : Nat → Option (Nat × Nat)) (cells : List AVal) : List (Nat × AVal) → Option (List AVal)
  | [] => some cells
  | (i, v) :: rest =>
    match place i with
    | none => none
    | some (off, size) =>
      bif Nat.beq v.cells.length size && Nat.ble (off + v.cells.length) cells.length then afill place (splice cells off v.cells) rest else none

def evParts (ev : Operand → R AVal) : List (Nat × Operand) → R (List (Nat × AVal))
  | [] => .ok []
  | (i, x) :: r => do
    let v ← ev x
    let l ← evParts ev r
    .ok ((i, v) :: l)

def evs (ev : Operand → R AVal) : List Operand → R (List AVal)
  | [] => .ok []
  | x :: r => do
    let v ← ev x
    let l ← evs ev r
    .ok (v :: l)

def fieldPlaces (P : Program) : List Field → R (List (Nat × Nat))
  | [] => .ok []
  | f :: r => do
    let n ← szOf P f.type
    let l ← fieldPlaces P r
    .ok ((f.offset, n) :: l)

def partA (P : Program) (t : TypeId) (cs : List AVal) (off : Nat) : R AVal := do
  let d ← und P t
  bif isAggD d then do
    let n ← szOf P t
    let l ← takeN cs off n
    .ok (.agg l)
  else nth cs off

def repl (n : Nat) (z : List AVal) : List AVal := match n with | 0 => [] | n + 1 => z ++ repl n z

/-- Key kinds for which a look-up is told at once. -/
def keyIs (k : Value) (k' : Value) : R Bool :=
  match k, k' with
  | .int j a, .int j' b => bif decide (j = j') then .ok (a == b) else .fail "keys of two kinds"
  | _, _ => .fail "a key of another kind"

def findA (k : Value) : List AEntry → Nat → R (Option (Nat × AVal))
  | [], _ => .ok none
  | e :: es, i => do
    let b ← keyIs k e.key
    bif b then .ok (some (i, e.val)) else findA k es (i + 1)

def setNth (l : List AEntry) (i : Nat) (v : AVal) (k : Value) : List AEntry := l.modify i fun e => { e with key := k, val := v }

def mapOf (s : AState) (m : AVal) : R (Nat × List AEntry × Nat) := do
  match m with
  | .map b => match ← s.get b with
    | .map es c => .ok (b, es, c)
    | _ => .fail "map expected"
  | _ => .fail "map expected"

def intKey (P : Program) (t : TypeId) : R TypeId := do
  match ← und P t with
  | .map k e => match ← und P k with
    | .int _ => .ok e
    | _ => .fail "a map of other keys"
  | _ => .fail "map type expected"

def asKey : AVal → R Value
  | .lit (.int k n) => .ok (.int k n)
  | _ => .fail "an integer key expected"

def mapPut (s : AState) (b : Nat) (es : List AEntry) (c : Nat) (k : Value) (v : AVal) : R AState := do
  match ← findA k es 0 with
  | some (i, _) => s.write b (.map (setNth es i v k) c)
  | none => s.write b (.map (es ++ [{ key := k, val := v, born := c }]) (c + 1))

/-- The cells of a slice's first `n` elements. -/
def sliceCells (s : AState) (esz n : Nat) : AVal → R (List AVal)
  | .slice b o _ _ => do takeN (← getCells s b) o (n * esz)
  | .lit (.slice none _ _) => .ok []
  | _ => .fail "slice expected"

def lenOfA : AVal → R Nat
  | .slice _ _ n _ => .ok n
  | .lit (.slice none n _) => bif Nat.beq n 0 then .ok 0 else .fail "a nil slice"
  | _ => .fail "slice expected"

def appendNew (s : AState) (esz n m : Nat) (cs : List AVal) : R (AVal × AState) := do
  guardR (Nat.ble (n + m) 1000000) "append: too long"
  let s' ← s.allocS (.cells cs true)
  .ok (.slice s.next 0 (n + m) (.grown esz), s')

def appendIn (s : AState) (b o n m esz : Nat) (cap : ACap) (new : List AVal) : R (AVal × AState) := do
  let s' ← storeCellsA s b (o + n * esz) new
  .ok (.slice b o (n + m) cap, s')

def appendGrown (s : AState) (b o n m esz : Nat) (new cs : List AVal) (g : Bool) : R (AVal × AState) := do
  guardR g "append: a block of known length"
  bif Nat.ble (o + (n + m) * esz) cs.length then appendIn s b o n m esz (.grown esz) new else do
    guardR (Nat.beq o 0 && Nat.ble s.ro b && Nat.ble (n * esz) cs.length) "append: in the middle"
    let s1 ← s.put b none
    appendNew s1 esz n m (cs.take (n * esz) ++ new)

def appendTo (s : AState) (esz m : Nat) (new : List AVal) (x : AVal) : R (AVal × AState) :=
  match x with
  | .lit (.slice none n c) => do
    guardR (Nat.beq n 0 && Nat.beq c 0) "append: nil"
    bif Nat.beq m 0 then .ok (.lit (.slice none 0 0), s) else appendNew s esz 0 m new
  | .slice b o n (.known c) => bif Nat.ble (n + m) c then (bif Nat.beq m 0 then .ok (.slice b o n (.known c), s) else appendIn s b o n m esz (.known c) new) else do
      let cs ← getCells s b
      let old ← takeN cs o (n * esz)
      appendNew s esz n m (old ++ new)
  | .slice b o n (.grown e) => do
    guardR (Nat.beq e esz) "append: another element"
    match ← s.get b with
    | .cells cs g => appendGrown s b o n m esz new cs g
    | _ => .fail "cells expected"
  | _ => .fail "append: slice expected"

def appendA (P : Program) (s : AState) (sT yT : TypeId) (x y : AVal) : R (AVal × AState) := do
  match ← und P sT, ← und P yT with
  | .slice elem, .slice _ => do
    let esz ← szOf P elem
    let by_ ← byOf P elem
    let z ← zeroOf P elem
    guardR (Nat.ble 1 esz && Nat.ble by_ 1000000 && Nat.beq z.cells.length esz) "append: element"
    let m ← lenOfA y
    let new ← sliceCells s esz m y
    guardR (new.all AVal.oneCell) "append: cells"
    appendTo s esz m new x
  | _, _ => .fail "append: slice types expected"

def boundA (x : AVal) (y : Nat) : R Nat := do
  match ← asNatLit x with
  | (_, .ofNat i) => bif Nat.ble i y then .ok i else .fail "slice bounds"
  | _ => .fail "slice bounds"

def optEv (ev : Operand → R AVal) : Option Operand → R (Option AVal)
  | none => .ok none
  | some x => do .ok (some (← ev x))

def optBound (x : Option AVal) (y d : Nat) : R Nat :=
  match x with
  | some v => boundA v y
  | none => .ok d

def hiBound (hi mx : Option AVal) (m len : Nat) : R Nat :=
  match hi with
  | some v => boundA v m
  | none => match mx with
    | none => .ok len
    | some _ => .fail "slice: max without high"

def boundsA (len cap : Nat) (lo hi mx : Option AVal) : R (Nat × Nat × Nat) := do
  let m ← optBound mx cap cap
  let h ← hiBound hi mx m len
  let l ← optBound lo h 0
  .ok (l, h, m)

/-- `x[lo:hi:mx]`. -/
def sliceOp (P : Program) (t : TypeId) (x : AVal) (lo hi mx : Option AVal) : R AVal := do
  match ← und P t with
  | .slice elem => do
    let esz ← szOf P elem
    match x with
    | .lit (.slice none n c) => do
      let (l, h, m) ← boundsA n c lo hi mx
      .ok (.lit (.slice none (h - l) (m - l)))
    | .slice b o n (.known c) => do
      let (l, h, m) ← boundsA n c lo hi mx
      .ok (.slice b (bif Nat.beq m l then o else o + l * esz) (h - l) (.known (m - l)))
    | .slice b o n (.grown e) => do
      guardR (Nat.beq e esz) "slice: another element"
      let (l, h, m) ← boundsA n n lo hi mx
      match mx with
      | some _ => .ok (.slice b (bif Nat.beq m l then o else o + l * esz) (h - l) (.known (m - l)))
      | none => do
        guardR (Nat.blt l n || Nat.beq l 0) "slice: at the end"
        .ok (.slice b (o + l * esz) (h - l) (.grown e))
    | _ => .fail "slice expected"
  | .array n elem => do
    let esz ← szOf P elem
    match x with
    | .ptr b o => do
      let (l, h, m) ← boundsA n n lo hi mx
      .ok (.slice b (bif Nat.beq m l then o else o + l * esz) (h - l) (.known (m - l)))
    | _ => .fail "an array's address expected"
  | _ => .fail "slice: type"

/-- Is it nil? of what may be compared with nil. -/
def nilOf : TypeDesc → AVal → R Bool
  | .pointer _, .lit (.pointer none) => .ok true
  | .pointer _, .ptr _ _ => .ok false
  | .slice _, .lit (.slice none _ _) => .ok true
  | .slice _, .slice _ _ _ _ => .ok false
  | .map _ _, .lit (.map none) => .ok true
  | .map _ _, .map _ => .ok false
  | .func _ _ _, .lit .nilFunc => .ok true
  | .func _ _ _, .clo _ _ => .ok false
  | _, _ => .fail "a comparison"

def aeqNil (P : Program) (t : TypeId) (x y : AVal) : R Bool := do
  let d ← und P t
  let a ← nilOf d x
  let b ← nilOf d y
  match a, b with
  | true, true => .ok true
  | true, false => .ok false
  | false, true => .ok false
  | false, false => .fail "a comparison of two references"

/-- Cells of integers that are surely alike. -/
def sameInts : List AVal → List AVal → Bool
  | [], [] => true
  | .sym i :: r, .sym j :: r' => Nat.beq i j && sameInts r r'
  | .lit (.int k n) :: r, .lit (.int k' n') :: r' => decide (k = k') && decide (n = n') && sameInts r r'
  | _, _ => false

/-- A type of arrays of integers. -/
def intArray (P : Program) (t : TypeId) (n : Nat) : Bool :=
  match P.underlying t with
  | some (.array m e) => Nat.beq m n && (match P.underlying e with | some (.int _) => true | _ => false) && decide ((P.info? e).map (·.size) = some 1) && !P.eqGuardType P.depth t
  | _ => false

def aeqSame (P : Program) (t : TypeId) (x y : AVal) : R Bool :=
  match x, y with
  | .agg l, .agg l' => bif sameInts l l' && intArray P t l.length then .ok true else .fail "a comparison of what is not known"
  | _, _ => aeqNil P t x y

/-! Operators on whole numbers, the short way. -/
def kindNo : IntKind → Nat
  | .i8 => nat_lit 0
  | .i16 => nat_lit 1
  | .i32 => nat_lit 2
  | .i64 => nat_lit 3
  | .u8 => nat_lit 4
  | .u16 => nat_lit 5
  | .u32 => nat_lit 6
  | .u64 => nat_lit 7

def kindTop : IntKind → Nat
  | .i8 => nat_lit 127
  | .i16 => nat_lit 32767
  | .i32 => nat_lit 2147483647
  | .i64 => nat_lit 9223372036854775807
  | .u8 => nat_lit 255
  | .u16 => nat_lit 65535
  | .u32 => nat_lit 4294967295
  | .u64 => nat_lit 18446744073709551615

def intEq : Int → Int → Bool
  | .ofNat a, .ofNat b => Nat.beq a b
  | .negSucc a, .negSucc b => Nat.beq a b
  | _, _ => false

def intLt : Int → Int → Bool
  | .ofNat a, .ofNat b => Nat.blt a b
  | .ofNat _, .negSucc _ => false
  | .negSucc _, .ofNat _ => true
  | .negSucc a, .negSucc b => Nat.blt b a

def natIn (k : IntKind) (n : Nat) : Option Value := bif Nat.ble n (kindTop k) then forceN n fun n => some (.int k (.ofNat n)) else none

def fastBin (op : BinOp) (k : IntKind) (a b : Int) : Option Value :=
  match op with
  | .eql => some (.bool (intEq a b))
  | .neq => some (.bool (!(intEq a b)))
  | .lss => some (.bool (intLt a b))
  | .leq => some (.bool (!(intLt b a)))
  | .gtr => some (.bool (intLt b a))
  | .geq => some (.bool (!(intLt a b)))
  | .add => match a, b with
    | .ofNat a, .ofNat b => natIn k (Nat.add a b)
    | _, _ => none
  | .sub => match a, b with
    | .ofNat a, .ofNat b => bif Nat.ble b a then natIn k (Nat.sub a b) else none
    | _, _ => none
  | .mul => match a, b with
    | .ofNat a, .ofNat b => natIn k (Nat.mul a b)
    | _, _ => none
  | _ => none

def fastOp (op : BinOp) : AVal → AVal → Option AVal
  | .lit (.int k a), .lit (.int j b) => bif Nat.beq (kindNo k) (kindNo j) then (match fastBin op k a b with | some v => some (.lit v) | none => none) else none
  | _, _ => none

def slowOp (P : Program) (op : BinOp) (t : TypeId) (ox oy : Operand) (x y : AVal) : R AVal :=
  match toVal x, toVal y with
  | some v, some w => litV (pureRun P (do eqGuard op t ox oy v w; binOp op t v w))
  | _, _ => match op with
    | .eql => do .ok (.lit (.bool (← aeqSame P t x y)))
    | .neq => do .ok (.lit (.bool (!(← aeqSame P t x y))))
    | _ => .fail "an operator on references"

def abinOp (P : Program) (op : BinOp) (t : TypeId) (ox oy : Operand) (x y : AVal) : R AVal :=
  match fastOp op x y with
  | some v => forceV v .ok
  | none => slowOp P op t ox oy x y

def oneInt : AVal → R (IntKind × Int)
  | .lit (.int k n) => .ok (k, n)
  | _ => .fail "min, max: integers expected"

def foldInt (f : Int → Int → Int) (k : IntKind) (a : Int) : List AVal → R AVal
  | [] => .ok (.lit (.int k a))
  | x :: r => do
    let (_, b) ← oneInt x
    foldInt f k (f a b) r

def lenA (P : Program) (s : AState) (t : TypeId) (x : AVal) : R Nat := do
  match ← und P t, x with
  | .string, .lit (.string b) => .ok b.size
  | .array n _, _ => .ok n
  | .slice _, .slice _ _ n _ => .ok n
  | .slice _, .lit (.slice none n _) => .ok n
  | .map _ _, .lit (.map none) => .ok 0
  | .map _ _, .map b => match ← s.get b with
    | .map es _ => .ok es.length
    | _ => .fail "len: map expected"
  | _, _ => .fail "len"

def deleteA (P : Program) (s : AState) (t : TypeId) (m k : AVal) : R (AVal × AState) := do
  let _ ← intKey P t
  let k ← asKey k
  let (b, es, c) ← mapOf s m
  match ← findA k es 0 with
  | some (i, _) => do .ok (aundef, ← s.write b (.map (es.eraseIdx i) c))
  | none => .ok (aundef, s)

def copyTo (s : AState) (k : Nat) (new : List AVal) (x : AVal) : R (AVal × AState) :=
  match x with
  | .slice b o _ _ => do .ok (.lit (.int .i64 (k : Int)), ← storeCellsA s b o new)
  | .lit (.slice none _ _) => .ok (.lit (.int .i64 (k : Int)), s)
  | _ => .fail "copy"

def copyA (P : Program) (s : AState) (t : TypeId) (x y : AVal) : R (AVal × AState) := do
  match ← und P t with
  | .slice elem => do
    let esz ← szOf P elem
    let n ← lenOfA x
    let m ← lenOfA y
    let new ← sliceCells s esz (min m n) y
    copyTo s (min m n) new x
  | _ => .fail "copy: slice type expected"

def clearA (P : Program) (s : AState) (t : TypeId) (x : AVal) : R (AVal × AState) := do
  match ← und P t, x with
  | .slice elem, .slice b o n _ => do
    let z ← zeroOf P elem
    .ok (aundef, ← storeCellsA s b o (repl n z.cells))
  | _, _ => .fail "clear"

def minI (a b : Int) : Int := if b < a then b else a
def maxI (a b : Int) : Int := if b > a then b else a

def foldA (f : Int → Int → Int) (x : AVal) (r : List AVal) : R AVal := do
  let (k, a) ← oneInt x
  foldInt f k a r

def abuiltin (P : Program) (s : AState) (b : Builtin) (ts : List TypeId) (args : List AVal) : R (AVal × AState) :=
  match b, args with
  | .append, [x, y] => match ts with
    | [t, t'] => appendA P s t t' x y
    | _ => .fail "append"
  | .len, [x] => match ts with
    | [t] => do .ok (.lit (.int .i64 ((← lenA P s t x) : Int)), s)
    | _ => .fail "len"
  | .min, x :: r => do .ok (← foldA minI x r, s)
  | .max, x :: r => do .ok (← foldA maxI x r, s)
  | .delete, [m, k] => match ts with
    | t :: _ => deleteA P s t m k
    | _ => .fail "delete"
  | .copy, [x, y] => match ts with
    | t :: _ => copyA P s t x y
    | _ => .fail "copy"
  | .clear, [x] => match ts with
    | t :: _ => clearA P s t x
    | _ => .fail "clear"
  | .complex, [.lit (.float k a), .lit (.float k' b)] => bif decide (k = k') then .ok (.lit (.complex k a b), s) else .fail "complex"
  | .real, [.lit (.complex k a _)] => .ok (.lit (.float k a), s)
  | .imag, [.lit (.complex k _ b)] => .ok (.lit (.float k b), s)
  | _, _ => .fail "a builtin"

def okv (v : AVal) (s : AState) : R (ANext × AState) := .ok (.val v, s)

def idxOf (i : Int) (n : Nat) : R Nat :=
  match i with
  | .ofNat k => bif Nat.blt k n then .ok k else .fail "an index out of range"
  | _ => .fail "an index out of range"

def nilCk : AVal → R AVal
  | .lit (.pointer none) => .fail "nil"
  | .lit .nilIface => .fail "nil"
  | .lit .nilFunc => .fail "nil"
  | .lit (.func _ _ _) => .fail "a function"
  | v => .ok v

def opMove (P : Program) (ev : Operand → R AVal) (x : Operand) (s : AState) : R (ANext × AState) :=
  do okv (← ev x) s

def opPick (P : Program) (ev : Operand → R AVal) (c : Operand) (a : Operand) (b : Operand) (s : AState) : R (ANext × AState) :=
  do
  let c ← asBoolLit (← ev c)
  let a ← ev a
  let b ← ev b
  okv (bif c then a else b) s

def opAlloc (P : Program) (ev : Operand → R AVal) (t : TypeId) (s : AState) : R (ANext × AState) :=
  do okv (.ptr s.next 0) (← s.alloc (.cells (← zeroOf P t).cells false))

def opBox (P : Program) (ev : Operand → R AVal) (x : Operand) (s : AState) : R (ANext × AState) :=
  do
  let v ← ev x
  guardR (v.cells.all AVal.oneCell) "box"
  okv (.ptr s.next 0) (← s.alloc (.cells v.cells false))

def opBuild (P : Program) (ev : Operand → R AVal) (t : TypeId) (parts : Array (Nat × Operand)) (s : AState) : R (ANext × AState) :=
  do
  let z ← zeroOf P t
  let ps ← evParts ev parts.toList
  match ← und P t with
  | .struct fs => do
    let pl ← fieldPlaces P fs.toList
    okv (.agg (← R.of "build" (afill (fun i => pl[i]?) z.cells ps))) s
  | .array _ e => do
    let n ← szOf P e
    okv (.agg (← R.of "build" (afill (fun i => some (i * n, n)) z.cells ps))) s
  | _ => .fail "build"

def opBuildSlice (P : Program) (ev : Operand → R AVal) (t : TypeId) (len : Nat) (parts : Array (Nat × Operand)) (s : AState) : R (ANext × AState) :=
  do
  match ← und P t with
  | .slice e => do
    let n ← szOf P e
    guardR (Nat.ble (len * n) 16777216) "buildSlice"
    let z ← zeroOf P e
    let ps ← evParts ev parts.toList
    guardR (Nat.beq z.cells.length n) "buildSlice: zero"
    let cs ← R.of "buildSlice" (afill (fun i => some (i * n, n)) (repl len z.cells) ps)
    guardR (cs.all AVal.oneCell) "buildSlice: cells"
    okv (.slice s.next 0 len (.known len)) (← s.alloc (.cells cs false))
  | _ => .fail "buildSlice"

def opLoad (P : Program) (ev : Operand → R AVal) (t : TypeId) (x : Operand) (s : AState) : R (ANext × AState) :=
  do
  let (b, o) ← asPtr (← ev x)
  okv (← loadA P s t b o) s

def opStore (P : Program) (ev : Operand → R AVal) (t : TypeId) (x : Operand) (v : Operand) (s : AState) : R (ANext × AState) :=
  do
  let (b, o) ← asPtr (← ev x)
  okv aundef (← storeA P s t b o (← ev v))

def opNilCheck (P : Program) (ev : Operand → R AVal) (x : Operand) (s : AState) : R (ANext × AState) :=
  do okv (← nilCk (← ev x)) s

def opBinOp (P : Program) (ev : Operand → R AVal) (op : BinOp) (t : TypeId) (x : Operand) (y : Operand) (s : AState) : R (ANext × AState) :=
  do
  let v ← ev x
  let w ← ev y
  okv (← abinOp P op t x y v w) s

def opUnOp (P : Program) (ev : Operand → R AVal) (op : UnOp) (x : Operand) (s : AState) : R (ANext × AState) :=
  do
  match ← ev x with
  | .lit v => do okv (← litV (pureRun P (Op.unary op v))) s
  | _ => .fail "a unary operator"

def opConvert (P : Program) (ev : Operand → R AVal) (a : TypeId) (b : TypeId) (x : Operand) (s : AState) : R (ANext × AState) :=
  do
  match ← ev x with
  | .lit v => do okv (← litV (pureRun P (convert a b v))) s
  | _ => .fail "a conversion"

def opMakeFunc (P : Program) (ev : Operand → R AVal) (f : FuncId) (first : Array Operand) (caps : Array Operand) (s : AState) : R (ANext × AState) :=
  do
  guardR (Nat.beq first.size 0) "a method value"
  okv (.clo f (← evs ev caps.toList)) s

def opMakeMap (P : Program) (ev : Operand → R AVal) (s : AState) : R (ANext × AState) :=
  do okv (.map s.next) (← s.alloc (.map [] 0))

def opMakeSlice (P : Program) (ev : Operand → R AVal) (t : TypeId) (l : Operand) (c : Operand) (s : AState) : R (ANext × AState) :=
  do
  match ← und P t with
  | .slice e => do
    let (_, l) ← asNatLit (← ev l)
    let (_, c) ← asNatLit (← ev c)
    let z ← zeroOf P e
    let n ← szOf P e
    let by_ ← byOf P e
    guardR (Nat.ble by_ 1000000 && Nat.beq z.cells.length n && Nat.ble 1 n) "make: element"
    match l, c with
    | .ofNat l, .ofNat c => do
      guardR (Nat.ble l c && Nat.ble c 1000000) "make: sizes"
      okv (.slice s.next 0 l (.known c)) (← s.alloc (.cells (repl c z.cells) false))
    | _, _ => .fail "make: sizes"
  | _ => .fail "make"

def opSlice (P : Program) (ev : Operand → R AVal) (t : TypeId) (x : Operand) (lo : Option Operand) (hi : Option Operand) (mx : Option Operand) (s : AState) : R (ANext × AState) :=
  do
  let v ← ev x
  let lo ← optEv ev lo
  let hi ← optEv ev hi
  let mx ← optEv ev mx
  okv (← sliceOp P t v lo hi mx) s

def opFieldAddr (P : Program) (ev : Operand → R AVal) (t : TypeId) (x : Operand) (f : Nat) (s : AState) : R (ANext × AState) :=
  do
  let (b, o) ← asPtr (← ev x)
  match ← und P t with
  | .struct fs => do
    let fd ← R.of "no such field" fs[f]?
    let n ← szOf P fd.type
    guardR (Nat.ble 1 n) "an empty field"
    okv (.ptr b (o + fd.offset)) s
  | _ => .fail "struct type expected"

def opField (P : Program) (ev : Operand → R AVal) (t : TypeId) (x : Operand) (f : Nat) (s : AState) : R (ANext × AState) :=
  do
  match ← ev x, ← und P t with
  | .agg cs, .struct fs => do
    let fd ← R.of "no such field" fs[f]?
    okv (← partA P fd.type cs fd.offset) s
  | _, _ => .fail "field"

def opIndexAddr (P : Program) (ev : Operand → R AVal) (t : TypeId) (x : Operand) (i : Operand) (s : AState) : R (ANext × AState) :=
  do
  let (_, i) ← asNatLit (← ev i)
  match ← und P t, ← ev x with
  | .array n e, .ptr b o => do
    let k ← idxOf i n
    okv (.ptr b (o + k * (← szOf P e))) s
  | .slice e, .slice b o n _ => do
    let k ← idxOf i n
    okv (.ptr b (o + k * (← szOf P e))) s
  | _, _ => .fail "indexAddr"

def opIndex (P : Program) (ev : Operand → R AVal) (t : TypeId) (x : Operand) (i : Operand) (s : AState) : R (ANext × AState) :=
  do
  let (_, i) ← asNatLit (← ev i)
  match ← und P t, ← ev x with
  | .array n e, .agg cs => do
    let k ← idxOf i n
    okv (← partA P e cs (k * (← szOf P e))) s
  | .string, .lit (.string b) => match i with
    | .ofNat k => do
      let c ← R.of "index" b[k]?
      okv (.lit (.int .u8 c.toNat)) s
    | _ => .fail "index"
  | _, _ => .fail "index"

def lookIn (s : AState) (m : AVal) (k : Value) : R (Option (Nat × AVal)) :=
  match m with
  | .lit (.map none) => .ok none
  | m => do
    let (_, es, _) ← mapOf s m
    findA k es 0

def lookVal (P : Program) (e : TypeId) (r : Option (Nat × AVal)) : R (AVal × Bool) :=
  match r with
  | some (_, v) => .ok (v, true)
  | none => do .ok (← zeroOf P e, false)

def opLookup (P : Program) (ev : Operand → R AVal) (t : TypeId) (x : Operand) (k : Operand) (ok : Bool) (s : AState) : R (ANext × AState) := do
  let e ← intKey P t
  let k ← asKey (← ev k)
  let x ← ev x
  let r ← lookIn s x k
  let p ← lookVal P e r
  okv (bif ok then .tup [p.1, .lit (.bool p.2)] else p.1) s

def opMapUpdate (P : Program) (ev : Operand → R AVal) (t : TypeId) (m : Operand) (k : Operand) (v : Operand) (s : AState) : R (ANext × AState) :=
  do
  let _ ← intKey P t
  let k ← asKey (← ev k)
  let v ← ev v
  let (b, es, c) ← mapOf s (← ev m)
  okv aundef (← mapPut s b es c k v)

def opMapEntry (P : Program) (ev : Operand → R AVal) (t : TypeId) (m : Operand) (k : Operand) (s : AState) : R (ANext × AState) :=
  do
  let e ← intKey P t
  let k ← asKey (← ev k)
  let (b, es, c) ← mapOf s (← ev m)
  match ← findA k es 0 with
  | some (i, v) => do
    let s ← s.write b (.map (es.modify i fun e => { e with key := k }) c)
    okv (.tup [v, .lit (.int .i64 (((es[i]?).map (·.born)).getD 0))]) s
  | none => do
    let z ← zeroOf P e
    let s ← s.write b (.map (es ++ [{ key := k, val := z, born := c }]) (c + 1))
    okv (.tup [z, .lit (.int .i64 c)]) s

def opEntryStore (P : Program) (ev : Operand → R AVal) (m : Operand) (st : Operand) (v : Operand) (s : AState) : R (ANext × AState) :=
  do
  let (_, st) ← asNatLit (← ev st)
  let v ← ev v
  let (b, es, c) ← mapOf s (← ev m)
  match es.findIdx? (fun e => (e.born : Int) == st) with
  | some i => do okv aundef (← s.write b (.map (es.modify i fun e => { e with val := v }) c))
  | none => .fail "the entry is gone"

def opRange (P : Program) (ev : Operand → R AVal) (t : TypeId) (x : Operand) (s : AState) : R (ANext × AState) :=
  do
  match ← und P t, ← ev x with
  | .map _ _, .lit (.map none) => do okv (.ptr s.next 0) (← s.alloc (.iter none 0 [] 0))
  | .map _ _, .map m => match ← s.get m with
    | .map _ c => do okv (.ptr s.next 0) (← s.alloc (.iter (some m) c [] c))
    | _ => .fail "range"
  | _, _ => .fail "range"

/-- What is left of a ranged map. -/
def leftA (es : List AEntry) (seen : List Nat) : List AEntry := es.filter fun e => !seen.contains e.born

def opNext (ev : Operand → R AVal) (it : Operand) (s : AState) : R (ANext × AState) := do
  let (r, o) ← asPtr (← ev it)
  guardR (Nat.beq o 0) "next"
  match ← s.get r with
  | .iter none _ _ _ => okv (.tup [.lit (.bool false)]) s
  | .iter (some m) since seen last => match ← s.get m with
    | .map es c => do
      guardR (Nat.ble since last && es.all fun e => Nat.blt e.born since) "next: new ones"
      match leftA es seen with
      | [] => okv (.tup [.lit (.bool false)]) s
      | [e] => do
        guardR (vOne e.key) "next: key"
        let s1 ← s.write r (.iter (some m) since (seen ++ [e.born]) c)
        okv (.tup [.lit (.bool true), .lit e.key, e.val]) s1
      | l => .ok (.choose l.length (fun _ => .fail "a choice"), s)
    | _ => .fail "next"
  | _ => .fail "next"

def opEntry (P : Program) (ev : Operand → R AVal) (it : Operand) (s : AState) : R (ANext × AState) :=
  do
  let (r, o) ← asPtr (← ev it)
  guardR (Nat.beq o 0) "entry"
  match ← s.get r with
  | .iter (some m) _ seen last => match ← s.get m with
    | .map es c => do
      guardR (Nat.beq c last) "entry: an insertion"
      let st ← R.of "entry" seen.getLast?
      match es.find? fun e => Nat.beq e.born st with
      | some e => do
        guardR (vOne e.key) "entry: key"
        okv (.tup [.lit e.key, e.val]) s
      | none => .fail "entry: gone"
    | _ => .fail "entry"
  | _ => .fail "entry"

def opExtract (P : Program) (ev : Operand → R AVal) (t : Operand) (i : Nat) (s : AState) : R (ANext × AState) :=
  do
  match ← ev t with
  | .tup vs => do okv (← nth vs i) s
  | _ => .fail "tuple expected"

def plainFn (P : Program) (f : FuncId) : Bool :=
  match P.funcs[f]? with
  | some fn => fn.body.isSome && fn.name != "runtime.NumGoroutine"
  | none => false

def opCall (P : Program) (ev : Operand → R AVal) (c : Call) (s : AState) : R (ANext × AState) :=
  do
  let args ← evs ev c.args.toList
  match c.callee with
  | .builtin b => do
    let (v, s) ← abuiltin P s b c.argTypes.toList args
    okv v s
  | .value f => match ← ev f with
    | .clo f caps => do
      guardR (plainFn P f) "call: no such function"
      .ok (.enter f (args ++ caps), s)
    | _ => .fail "function expected"
  | _ => .fail "invoke"

def aop (P : Program) (ev : Operand → R AVal) (o : Oper) (s : AState) : R (ANext × AState) :=
  match o.op with
  | .move x | .assign x => opMove P ev x s
  | .pick c a b => opPick P ev c a b s
  | .alloc t => opAlloc P ev t s
  | .box _ x => opBox P ev x s
  | .build t parts => opBuild P ev t parts s
  | .buildSlice t len parts => opBuildSlice P ev t len parts s
  | .load t x => opLoad P ev t x s
  | .store t x v => opStore P ev t x v s
  | .nilCheck x => opNilCheck P ev x s
  | .binOp op t x y _ => opBinOp P ev op t x y s
  | .unOp op _ x => opUnOp P ev op x s
  | .convert a b x => opConvert P ev a b x s
  | .makeFunc (.func f) first caps => opMakeFunc P ev f first caps s
  | .makeMap _ none => opMakeMap P ev s
  | .makeSlice t l c => opMakeSlice P ev t l c s
  | .slice t x lo hi mx => opSlice P ev t x lo hi mx s
  | .fieldAddr t x f => opFieldAddr P ev t x f s
  | .field t x f => opField P ev t x f s
  | .indexAddr t x i => opIndexAddr P ev t x i s
  | .index t x i => opIndex P ev t x i s
  | .lookup t x k ok => opLookup P ev t x k ok s
  | .mapUpdate t m k v | .insert t m k v => opMapUpdate P ev t m k v s
  | .mapEntry t m k => opMapEntry P ev t m k s
  | .entryStore _ m st v => opEntryStore P ev m st v s
  | .range t x => opRange P ev t x s
  | .next it false => opNext ev it s
  | .entry it => opEntry P ev it s
  | .extract t i => opExtract P ev t i s
  | .call c => opCall P ev c s
  | _ => .fail "an operation"

/-! ### Code -/
inductive AExit where
  | normal
  | exit (id : Nat)
  | goto (l : Nat)
  | ret
deriving Inhabited

inductive Task where
  | call (f : FuncId) (args : List AVal)
  | code (c : Code) (a : AAct)
  | inscope (body c : Code) (a : AAct)
  | ask (o : Op) (vs : List AVal)
deriving Inhabited

inductive Done where
  | val (v : AVal)
  | out (e : AExit) (a : AAct)
deriving Inhabited

abbrev Rec := Task → AState → R (Done × AState)

def AAct.put (a : AAct) (dst : Option Tmp) (v : AVal) : R AAct :=
  match dst with
  | some d => match a with
    | ⟨t, n⟩ => cond (Nat.blt d n && Nat.ble d lim) (forceV v fun v => Tr.setK (some v) 40 t d fun t => .ok ⟨t, n⟩) (.fail "put")
  | none => .ok a

def nthOp : List Oper → Nat → Option Oper
  | [], _ => none
  | o :: r, i => match i with
    | .zero => some o
    | .succ i => nthOp r i

def doCall (rec : Rec) (f : FuncId) (args : List AVal) (s : AState) : R (AVal × AState) := do
  match ← rec (.call f args) s with
  | (.val v, s) => .ok (v, s)
  | _ => .fail "call"

def doCode (rec : Rec) (c : Code) (a : AAct) (s : AState) : R (AExit × AAct × AState) := do
  match ← rec (.code c a) s with
  | (.out e a, s) => .ok (e, a, s)
  | _ => .fail "code"

def wantedA (ops : List Oper) (a : AAct) (o : Oper) : R Bool :=
  match o.guard with
  | none => .ok true
  | some (g, want) => match (nthOp ops g).bind (·.dst) with
    | some t => match a.tmps.get t with
      | some (.lit (.bool b)) => .ok (b == want)
      | some (.tup []) => .ok false
      | _ => .fail "guard"
    | none => .fail "guard"

/-- Operations whose answer may be told from outside, where the machine has none. -/
def asked : Op → Bool
  | .binOp .. | .convert .. | .unOp .. | .call _ => true
  | _ => false

def askA (rec : Rec) (ev : Operand → R AVal) (o : Oper) (s : AState) (w : String) : R (AVal × AState) :=
  bif asked o.op then
    match evs ev o.op.operands.toList with
    | .ok vs => match rec (.ask o.op vs) s with
      | .ok (.val v, _) => .ok (v, s)
      | _ => .fail w
    | .fail e => .fail e
  else .fail w

def execA (P : Program) (rec : Rec) (ev : Operand → R AVal) (o : Oper) (s : AState) : R (AVal × AState) :=
  match aop P ev o s with
  | .ok (.val v, s) => .ok (v, s)
  | .ok (.enter f args, s) => doCall rec f args s
  | .ok _ => .fail "a choice"
  | .fail w => askA rec ev o s w

def stepOp (P : Program) (rec : Rec) (ops : List Oper) (o : Oper) (a : AAct) (s : AState) : R (AAct × AState) := do
  let w ← wantedA ops a o
  bif w then do
    let p ← execA P rec (aev a) o s
    .ok (← a.put o.dst p.1, p.2)
  else do .ok (← a.put o.dst aundef, s)

def runOps (P : Program) (rec : Rec) (ops : List Oper) : List Oper → AAct → AState → R (AAct × AState)
  | [], a, s => .ok (a, s)
  | o :: rest, a, s => do
    let (a, s) ← stepOp P rec ops o a s
    runOps P rec ops rest a s

def initTmps {β : Type} : List AVal → Nat → Tr AVal → (Tr AVal → β) → β
  | [], _, t, c => c t
  | v :: r, i, t, c => forceV v fun v => Tr.setK (some v) 40 t i fun t => initTmps r (Nat.succ i) t c

def resA (P : Program) (a : AAct) (s : AState) : List ResultVar → R (List AVal)
  | [] => .ok []
  | .tmp t :: r => do
    let v ← R.of "result" (a.tmps.get t)
    let l ← resA P a s r
    .ok (v :: l)
  | .cell c t :: r => do
    match a.tmps.get c with
    | some (.ptr b o) => do
      let v ← loadA P s t b o
      let l ← resA P a s r
      .ok (v :: l)
    | _ => .fail "result"

abbrev Prims := FuncId → Option (List AVal → AState → R (AVal × AState))

/-- What is known of operations on unknown numbers. -/
abbrev Facts := Op → List AVal → Option AVal

def noFacts : Facts := fun _ _ => none

def stepT (P : Program) (prims : Prims) (facts : Facts) (drawOk : Rec → List Oper → AAct → AState → R (AAct × AState)) (rec : Rec) : Rec
  | .call f args, s => match prims f with
    | some p => do
      let (v, s) ← p args s
      .ok (.val v, s)
    | none => do
      let fn ← R.of "no such function" P.funcs[f]?
      let body ← R.of "no body" fn.body
      guardR (Nat.ble args.length fn.ntmps && Nat.ble fn.ntmps lim) "call"
      let (e, a, s) ← initTmps args (nat_lit 0) .leaf fun t => doCode rec body ⟨t, fn.ntmps⟩ s
      match e with
      | .normal | .ret => do
        match ← resA P a s fn.results.toList with
        | [v] => .ok (.val v, s)
        | vs => .ok (.val (.tup vs), s)
      | _ => .fail "jump"
  | .code c a, s => match c with
    | .skip | .label _ => .ok (.out .normal a, s)
    | .region _ ops d => do
      let (a, s) ← bif d then drawOk rec ops.toList a s else runOps P rec ops.toList ops.toList a s
      .ok (.out .normal a, s)
    | .seq x y => do
      match ← doCode rec x a s with
      | (.normal, a, s) => rec (.code y a) s
      | (e, a, s) => .ok (.out e a, s)
    | .cond c x y => do
      let b ← asBoolLit (← aev a c)
      rec (.code (bif b then x else y) a) s
    | .block id x => do
      match ← doCode rec x a s with
      | (.exit id', a, s) => .ok (.out (bif Nat.beq id' id then .normal else .exit id') a, s)
      | (e, a, s) => .ok (.out e a, s)
    | .loop x => do
      match ← doCode rec x a s with
      | (.normal, a, s) => rec (.code (.loop x) a) s
      | (e, a, s) => .ok (.out e a, s)
    | .exit id => .ok (.out (.exit id) a, s)
    | .goto l => .ok (.out (.goto l) a, s)
    | .ret => .ok (.out .ret a, s)
    | .scope x => rec (.inscope x x a) s
    | _ => .fail "code"
  | .ask o vs, s => match facts o vs with
    | some v => .ok (.val v, s)
    | none => .fail "no fact"
  | .inscope body c a, s => do
    match ← doCode rec c a s with
    | (.goto l, a, s) => match findLabel body l with
      | some rest => rec (.inscope body rest a) s
      | none => .ok (.out (.goto l) a, s)
    | (e, a, s) => .ok (.out e a, s)

def run (P : Program) (prims : Prims) (facts : Facts) (drawOk : Rec → List Oper → AAct → AState → R (AAct × AState)) (n : Nat) : Rec :=
  Nat.rec (fun _ _ => .fail "fuel") (fun _ ih => stepT P prims facts drawOk ih) n

end
end Go.Am


/-
  The abstract machine against the model: what an abstract value, block and state stand for; how they are kept.
-/
namespace Go.Am
open Go Go.RowKit
set_option linter.unusedVariables false
set_option linter.unusedSimpArgs false

/-- Where an abstract block lies: the model's block, how far its cells begin behind the block's head, how many cells that block has. -/
structure Loc where
  blk : Nat
  off : Nat
  size : Nat

abbrev Ren := Nat → Option Loc
abbrev Syms := Nat → IntKind × Int

mutual
def VRel (σ : Syms) (ρ : Ren) : AVal → Value → Prop
  | .lit v, w => w = v ∧ vOne v = true
  | .sym i, w => w = .int (σ i).1 (σ i).2
  | .ptr b o, w => ∃ L, ρ b = some L ∧ w = .pointer (some ⟨L.blk, L.off + o, none⟩)
  | .slice b o l (.known k), w => ∃ L, ρ b = some L ∧ w = .slice (some ⟨L.blk, L.off + o, none⟩) l k
  | .slice b o l (.grown e), w => ∃ L k, ρ b = some L ∧ w = .slice (some ⟨L.blk, L.off + o, none⟩) l k ∧ l ≤ k ∧ L.off = 0 ∧ o + k * e = L.size
  | .map b, w => ∃ L, ρ b = some L ∧ w = .map (some L.blk)
  | .clo f cs, w => ∃ ws, w = .func (.func f) #[] ws ∧ VRels σ ρ cs ws.toList
  | .agg cs, w => ∃ ws, w = .agg ws ∧ VRels σ ρ cs ws.toList
  | .tup cs, w => ∃ ws, w = .tuple ws ∧ VRels σ ρ cs ws.toList
def VRels (σ : Syms) (ρ : Ren) : List AVal → List Value → Prop
  | [], ws => ws = []
  | v :: r, ws => ∃ u us, ws = u :: us ∧ VRel σ ρ v u ∧ VRels σ ρ r us
end

def Ext (ρ ρ' : Ren) : Prop := ∀ b L, ρ b = some L → ρ' b = some L

theorem Ext.refl (ρ : Ren) : Ext ρ ρ := fun _ _ h => h
theorem Ext.trans {ρ ρ' ρ'' : Ren} (h : Ext ρ ρ') (h' : Ext ρ' ρ'') : Ext ρ ρ'' := fun b L e => h' b L (h b L e)

mutual
theorem VRel.mono {σ : Syms} {ρ ρ' : Ren} (he : Ext ρ ρ') : ∀ (v : AVal) (w : Value), VRel σ ρ v w → VRel σ ρ' v w
  | .lit v, w, h => h
  | .sym i, w, h => h
  | .ptr b o, w, ⟨L, h1, h2⟩ => ⟨L, he b L h1, h2⟩
  | .slice b o l (.known k), w, ⟨L, h1, h2⟩ => ⟨L, he b L h1, h2⟩
  | .slice b o l (.grown e), w, ⟨L, k, h1, h2⟩ => ⟨L, k, he b L h1, h2⟩
  | .map b, w, ⟨L, h1, h2⟩ => ⟨L, he b L h1, h2⟩
  | .clo f cs, w, ⟨ws, h1, h2⟩ => ⟨ws, h1, VRels.mono he cs _ h2⟩
  | .agg cs, w, ⟨ws, h1, h2⟩ => ⟨ws, h1, VRels.mono he cs _ h2⟩
  | .tup cs, w, ⟨ws, h1, h2⟩ => ⟨ws, h1, VRels.mono he cs _ h2⟩
theorem VRels.mono {σ : Syms} {ρ ρ' : Ren} (he : Ext ρ ρ') : ∀ (vs : List AVal) (ws : List Value), VRels σ ρ vs ws → VRels σ ρ' vs ws
  | [], ws, h => h
  | v :: r, ws, ⟨u, us, h1, h2, h3⟩ => ⟨u, us, h1, VRel.mono he v u h2, VRels.mono he r us h3⟩
end

theorem VRels.length {σ : Syms} {ρ : Ren} : ∀ {vs : List AVal} {ws : List Value}, VRels σ ρ vs ws → ws.length = vs.length
  | [], ws, h => by simp only [VRels] at h; subst h; rfl
  | v :: r, ws, h => by
    simp only [VRels] at h
    obtain ⟨u, us, rfl, _, h3⟩ := h
    simp [VRels.length h3]

theorem VRels.get {σ : Syms} {ρ : Ren} : ∀ {vs : List AVal} {ws : List Value}, VRels σ ρ vs ws → ∀ (j : Nat) (v : AVal), vs[j]? = some v → ∃ u, ws[j]? = some u ∧ VRel σ ρ v u
  | [], ws, h, j, v, hj => by simp at hj
  | v :: r, ws, h, j, x, hj => by
    simp only [VRels] at h
    obtain ⟨u, us, rfl, h2, h3⟩ := h
    cases j with
    | zero => simp at hj; subst hj; exact ⟨u, rfl, h2⟩
    | succ j => simpa using VRels.get h3 j x (by simpa using hj)

theorem VRels.of_get {σ : Syms} {ρ : Ren} : ∀ {vs : List AVal} {ws : List Value}, ws.length = vs.length → (∀ (j : Nat) (v : AVal), vs[j]? = some v → ∃ u, ws[j]? = some u ∧ VRel σ ρ v u) → VRels σ ρ vs ws
  | [], ws, h, _ => by simp only [VRels]; exact List.length_eq_zero_iff.1 h
  | v :: r, [], h, _ => by simp at h
  | v :: r, w :: ws, h, hg => by
    simp only [VRels]
    refine ⟨w, ws, rfl, ?_, VRels.of_get (by simpa using h) fun j x hj => ?_⟩
    · obtain ⟨u, hu, hv⟩ := hg 0 v rfl
      simp at hu; subst hu; exact hv
    · obtain ⟨u, hu, hv⟩ := hg (j + 1) x (by simpa using hj)
      exact ⟨u, by simpa using hu, hv⟩

theorem VRels.append {σ : Syms} {ρ : Ren} : ∀ {vs vs' : List AVal} {ws ws' : List Value}, VRels σ ρ vs ws → VRels σ ρ vs' ws' → VRels σ ρ (vs ++ vs') (ws ++ ws')
  | [], _, ws, _, h, h' => by simp only [VRels] at h; subst h; exact h'
  | v :: r, _, ws, _, h, h' => by
    simp only [VRels] at h
    obtain ⟨u, us, rfl, h2, h3⟩ := h
    exact ⟨u, us ++ _, rfl, h2, VRels.append h3 h'⟩

theorem VRels.take {σ : Syms} {ρ : Ren} (n : Nat) {vs : List AVal} {ws : List Value} (h : VRels σ ρ vs ws) : VRels σ ρ (vs.take n) (ws.take n) := by
  refine VRels.of_get (by simp [h.length]) fun j v hj => ?_
  rw [List.getElem?_take] at hj ⊢
  split at hj
  · rename_i hjn; rw [if_pos hjn]; exact h.get j v hj
  · cases hj

theorem VRels.drop {σ : Syms} {ρ : Ren} (n : Nat) {vs : List AVal} {ws : List Value} (h : VRels σ ρ vs ws) : VRels σ ρ (vs.drop n) (ws.drop n) := by
  refine VRels.of_get (by simp [h.length]) fun j v hj => ?_
  rw [List.getElem?_drop] at hj ⊢
  exact h.get _ v hj

theorem VRel.oneCell {σ : Syms} {ρ : Ren} {v : AVal} {w : Value} (h : VRel σ ρ v w) (h1 : v.oneCell = true) : w.oneCell' = true := by
  cases v with
  | slice b o l c =>
    cases c with
    | known k => simp only [VRel] at h; obtain ⟨_, _, rfl⟩ := h; rfl
    | grown e => simp only [VRel] at h; obtain ⟨_, _, _, rfl, _⟩ := h; rfl
  | lit v =>
    simp only [VRel] at h
    obtain ⟨rfl, h2⟩ := h
    cases w <;> first | rfl | (simp [vOne] at h2)
  | sym i => simp only [VRel] at h; subst h; rfl
  | ptr b o => simp only [VRel] at h; obtain ⟨_, _, rfl⟩ := h; rfl
  | map b => simp only [VRel] at h; obtain ⟨_, _, rfl⟩ := h; rfl
  | clo f cs => simp only [VRel] at h; obtain ⟨_, rfl, _⟩ := h; rfl
  | agg cs => simp [AVal.oneCell] at h1
  | tup cs => simp [AVal.oneCell] at h1

theorem VRels.oneCell {σ : Syms} {ρ : Ren} {vs : List AVal} {ws : List Value} (h : VRels σ ρ vs ws) (h1 : vs.all AVal.oneCell = true) : ∀ w ∈ ws, w.oneCell' = true := by
  intro w hw
  obtain ⟨j, hj, rfl⟩ := List.getElem_of_mem hw
  have hjv : j < vs.length := by rw [← h.length]; exact hj
  obtain ⟨u, hu, hv⟩ := h.get j vs[j] (by simp [hjv])
  simp [hj] at hu; subst hu
  exact hv.oneCell (List.all_eq_true.1 h1 _ (List.getElem_mem hjv))

theorem VRel.cells {σ : Syms} {ρ : Ren} {v : AVal} {w : Value} (h : VRel σ ρ v w) (h1 : v.cells.all AVal.oneCell = true) : VRels σ ρ v.cells w.cells.toList := by
  have one : ∀ {w : Value}, w.oneCell' = true → VRel σ ρ v w → w.cells = #[w] := fun {w} h2 _ => by cases w <;> first | rfl | simp [Value.oneCell'] at h2
  cases v with
  | agg cs => simp only [VRel] at h; obtain ⟨ws, rfl, h⟩ := h; exact h
  | tup cs => simp [AVal.cells, AVal.oneCell] at h1
  | _ => rw [one (h.oneCell rfl) h]; exact ⟨_, _, rfl, h, rfl⟩

/-- Entries, one by one. -/
def ERels (σ : Syms) (ρ : Ren) : List AEntry → List MapEntry → Prop
  | [], ms => ms = []
  | e :: r, ms => ∃ m ns, ms = m :: ns ∧ m.key = e.key ∧ m.born = e.born ∧ VRel σ ρ e.val m.val ∧ ERels σ ρ r ns

theorem ERels.mono {σ : Syms} {ρ ρ' : Ren} (he : Ext ρ ρ') : ∀ {es : List AEntry} {ms : List MapEntry}, ERels σ ρ es ms → ERels σ ρ' es ms
  | [], ms, h => h
  | e :: r, ms, ⟨m, ns, h1, h2, h3, h4, h5⟩ => ⟨m, ns, h1, h2, h3, VRel.mono he _ _ h4, ERels.mono he h5⟩

/-- What a block stands for, in a world. -/
def ORel (σ : Syms) (ρ : Ren) (L : Loc) (rw_ : Bool) (w : World) : AObj → Prop
  | .cells cs g => (∀ j v, cs[j]? = some v → ∃ u, w.cell? ⟨L.blk, L.off + j, none⟩ = some u ∧ VRel σ ρ v u) ∧
      (rw_ = true → ∀ j, j < cs.length → w.frozen? ⟨L.blk, L.off + j, none⟩ = false) ∧
      (g = true → L.off = 0 ∧ cs.length ≤ L.size ∧ ∀ i, i < L.size → (w.cell? ⟨L.blk, i, none⟩).isSome = true ∧ w.frozen? ⟨L.blk, i, none⟩ = false)
  | .map es c => ∃ ms, w.heap[L.blk]? = some (.map ms c) ∧ ERels σ ρ es ms.toList
  | .iter m s l k => L.off = 0 ∧ ∃ m', w.heap[L.blk]? = some (.mapIter m' s l.toArray k) ∧ (match m, m' with
      | none, none => True
      | some b, some c => ∃ M, ρ b = some M ∧ M.blk = c
      | _, _ => False)

theorem ORel.mono {σ : Syms} {ρ ρ' : Ren} {L : Loc} {r : Bool} {w : World} {o : AObj} (he : Ext ρ ρ') (h : ORel σ ρ L r w o) : ORel σ ρ' L r w o := by
  cases o with
  | cells cs g =>
    obtain ⟨h1, h2, h3⟩ := h
    exact ⟨fun j v hj => let ⟨u, hu, hv⟩ := h1 j v hj; ⟨u, hu, VRel.mono he _ _ hv⟩, h2, h3⟩
  | map es c => obtain ⟨ms, h1, h2⟩ := h; exact ⟨ms, h1, h2.mono he⟩
  | iter m s l k =>
    obtain ⟨h0, m', h1, h2⟩ := h
    refine ⟨h0, m', h1, ?_⟩
    cases m <;> cases m' <;> first | exact h2 | (obtain ⟨M, e1, e2⟩ := h2; exact ⟨M, he _ _ e1, e2⟩)

theorem cell_of_block {w w' : World} {b o : Nat} (h : w'.heap[b]? = w.heap[b]?) : w'.cell? ⟨b, o, none⟩ = w.cell? ⟨b, o, none⟩ := by
  simp only [World.cell?, h]
theorem frozen_of_block {w w' : World} {b o : Nat} (h : w'.heap[b]? = w.heap[b]?) : w'.frozen? ⟨b, o, none⟩ = w.frozen? ⟨b, o, none⟩ := by
  simp only [World.frozen?, h]

theorem ORel.of_block {σ : Syms} {ρ : Ren} {L : Loc} {r : Bool} {w w' : World} {o : AObj} (hb : w'.heap[L.blk]? = w.heap[L.blk]?) (h : ORel σ ρ L r w o) : ORel σ ρ L r w' o := by
  cases o with
  | cells cs g =>
    obtain ⟨h1, h2, h3⟩ := h
    refine ⟨fun j v hj => ?_, fun hr j hj => ?_, fun hg => ?_⟩
    · rw [cell_of_block hb]; exact h1 j v hj
    · rw [frozen_of_block hb]; exact h2 hr j hj
    · refine ⟨(h3 hg).1, (h3 hg).2.1, fun i hi => ?_⟩
      rw [cell_of_block hb, frozen_of_block hb]; exact (h3 hg).2.2 i hi
  | map es c => obtain ⟨ms, h1, h2⟩ := h; exact ⟨ms, hb.trans h1, h2⟩
  | iter m s l k => obtain ⟨h0, m', h1, h2⟩ := h; exact ⟨h0, m', hb.trans h1, h2⟩

/-- An abstract state and a world: `N0`, `w0`: what was there when the run began, and is as it was. -/
structure WRel (σ : Syms) (N0 : Nat) (w0 : World) (ρ : Ren) (s : AState) (w : World) : Prop where
  base : Below N0 w0 w
  n0 : N0 ≤ w.heap.size
  bnd : s.ro ≤ s.next ∧ s.next ≤ lim + 1
  inj : ∀ b b' L L', s.ro ≤ b → s.ro ≤ b' → s.heap.get b ≠ none → s.heap.get b' ≠ none → ρ b = some L → ρ b' = some L' → L.blk = L'.blk → b = b'
  dom : ∀ b, s.heap.get b ≠ none → b < s.next
  rng : ∀ b L, ρ b = some L → L.blk < w.heap.size ∧ (s.ro ≤ b → N0 ≤ L.blk) ∧ (b < s.ro → L.blk < N0)
  heap : ∀ b o, s.heap.get b = some o → ∀ L, ρ b = some L → ORel σ ρ L (decide (s.ro ≤ b)) w o

/-- One state, one world, behind another one. No block below `s'.low` has been turned. -/
structure Post (σ : Syms) (N0 : Nat) (w0 : World) (ρ : Ren) (s : AState) (w : World) (ρ' : Ren) (s' : AState) (w' : World) : Prop where
  ext : Ext ρ ρ'
  new : ∀ b L, ρ' b = some L → ρ b = some L ∨ (s.next ≤ b ∧ b < s'.next ∧ (w.heap.size ≤ L.blk ∨ ∃ b0 L0, b0 < s.next ∧ s'.low ≤ b0 ∧ ρ b0 = some L0 ∧ L0.blk = L.blk))
  next : s.next ≤ s'.next
  ro : s'.ro = s.ro
  low : s'.low ≤ s.low
  same : ∀ b, b < s.next → b < s'.low → s'.heap.get b = s.heap.get b
  live : ∀ b, b < s.next → s'.heap.get b ≠ none → s.heap.get b ≠ none
  wrel : WRel σ N0 w0 ρ' s' w'
  frame : ∀ c, c < w.heap.size → (∀ b L, b < s.next → s'.low ≤ b → ρ b = some L → L.blk ≠ c) → w'.heap[c]? = w.heap[c]?
  size : w.heap.size ≤ w'.heap.size

def Fresh (ρ : Ren) (a b : Nat) : Prop := ∀ i, a ≤ i → i < b → ρ i = none

theorem Fresh.mono {ρ : Ren} {a b a' b' : Nat} (h : Fresh ρ a b) (ha : a ≤ a') (hb : b' ≤ b) : Fresh ρ a' b' := fun i h1 h2 => h i (by omega) (by omega)

section
variable {σ : Syms} {N0 : Nat} {w0 : World}

theorem Post.refl {ρ : Ren} {s : AState} {w : World} (h : WRel σ N0 w0 ρ s w) : Post σ N0 w0 ρ s w ρ s w :=
  ⟨Ext.refl _, fun _ _ h => .inl h, Nat.le_refl _, rfl, Nat.le_refl _, fun _ _ _ => rfl, fun _ _ h => h, h, fun _ _ _ => rfl, Nat.le_refl _⟩

theorem Post.trans {ρ ρ1 ρ2 : Ren} {s s1 s2 : AState} {w w1 w2 : World} (h : Post σ N0 w0 ρ s w ρ1 s1 w1) (hf : Fresh ρ s.next s1.next)
    (k : Post σ N0 w0 ρ1 s1 w1 ρ2 s2 w2) : Post σ N0 w0 ρ s w ρ2 s2 w2 := by
  have hl := k.low
  have hn := h.next
  have hn' := k.next
  have old : ∀ b L, ρ1 b = some L → b < s.next → ρ b = some L := fun b L e hb => by
    rcases h.new b L e with h1 | ⟨h1, _⟩
    · exact h1
    · omega
  have fresh : ∀ b L, ρ1 b = some L → s.next ≤ b → b < s1.next → w.heap.size ≤ L.blk ∨ ∃ b0 L0, b0 < s.next ∧ s1.low ≤ b0 ∧ ρ b0 = some L0 ∧ L0.blk = L.blk := fun b L e hb hb1 => by
    rcases h.new b L e with h1 | ⟨_, _, h1⟩
    · rw [hf b hb hb1] at h1; cases h1
    · exact h1
  refine ⟨h.ext.trans k.ext, fun b L e => ?_, by omega, k.ro.trans h.ro, by have := h.low; omega, fun b h1 h2 => ?_, fun b h1 h2 => ?_, k.wrel, fun c hc H => ?_, Nat.le_trans h.size k.size⟩
  · rcases k.new b L e with h1 | ⟨h1, h2, h3⟩
    · rcases h.new b L h1 with h4 | ⟨h4, h5, h6⟩
      · exact .inl h4
      · refine .inr ⟨h4, by omega, ?_⟩
        rcases h6 with h6 | ⟨b0, L0, g1, g2, g3⟩
        · exact .inl h6
        · exact .inr ⟨b0, L0, g1, by omega, g3⟩
    · refine .inr ⟨by omega, h2, ?_⟩
      rcases h3 with h3 | ⟨b0, L0, g1, g2, g3, g4⟩
      · exact .inl (by have := h.size; omega)
      · by_cases hb0 : b0 < s.next
        · exact .inr ⟨b0, L0, hb0, g2, old b0 L0 g3 hb0, g4⟩
        · rcases fresh b0 L0 g3 (by omega) g1 with h5 | ⟨b1, L1, e1, e2, e3, e4⟩
          · exact .inl (by omega)
          · exact .inr ⟨b1, L1, e1, by omega, e3, e4.trans g4⟩
  · rw [k.same b (by omega) h2]; exact h.same b h1 (by omega)
  · exact h.live b h1 (k.live b (by omega) h2)
  · have h1 := h.frame c hc fun b L hb hl' e => H b L hb (by omega) e
    rw [← h1]
    refine k.frame c (by have := h.size; omega) fun b L hb hl' e => ?_
    by_cases hbs : b < s.next
    · exact H b L hbs hl' (old b L e hbs)
    · rcases fresh b L e (by omega) hb with h5 | ⟨b1, L1, e1, e2, e3, e4⟩
      · omega
      · have := H b1 L1 e1 (by omega) e3; omega

end

/-! ### The evaluator's small parts -/
theorem R.bind_ok {α β : Type} {x : R α} {f : α → R β} {b : β} (h : R.bind x f = .ok b) : ∃ a, x = .ok a ∧ f a = .ok b := by
  cases x with
  | ok a => exact ⟨a, rfl, h⟩
  | fail w => cases h

theorem R.bind_ok' {α β : Type} {x : R α} {f : α → R β} {b : β} (h : (x >>= f) = .ok b) : ∃ a, x = .ok a ∧ f a = .ok b := R.bind_ok h

theorem R.of_ok {α : Type} {w : String} {o : Option α} {a : α} (h : R.of w o = .ok a) : o = some a := by
  cases o with
  | some b => simp only [R.of, R.ok.injEq] at h; rw [h]
  | none => cases h

theorem guardR_ok {b : Bool} {w : String} {u : Unit} (h : guardR b w = .ok u) : b = true := by
  cases b with
  | true => rfl
  | false => cases h

section force
variable {β : Type}
theorem forceN_eq (n : Nat) (c : Nat → β) : forceN n c = c n := by cases n <;> rfl
theorem forceI_eq (n : Int) (c : Int → β) : forceI n c = c n := by cases n <;> simp only [forceI, forceN_eq]
theorem forceB_eq (b : Bool) (c : Bool → β) : forceB b c = c b := by cases b <;> rfl
theorem forceLit_eq (v : Value) (c : Value → β) : forceLit v c = c v := by cases v <;> simp only [forceLit, forceI_eq, forceB_eq, forceN_eq]
theorem forceCell_eq (v : AVal) (c : AVal → β) : forceCell v c = c v := by
  cases v with
  | slice b o n k => cases k <;> simp only [forceCell, forceN_eq]
  | _ => simp only [forceCell, forceLit_eq, forceN_eq]
theorem forceCells_eq : ∀ (l : List AVal) (c : List AVal → β), forceCells l c = c l
  | [], c => rfl
  | v :: r, c => by simp only [forceCells, forceCell_eq, forceCells_eq r]
theorem forceW_eq (v : AVal) (c : AVal → β) : forceW v c = c v := by
  cases v <;> simp only [forceW, forceCells_eq, forceCell_eq]
theorem forceWs_eq : ∀ (l : List AVal) (c : List AVal → β), forceWs l c = c l
  | [], c => rfl
  | v :: r, c => by simp only [forceWs, forceW_eq, forceWs_eq r]
theorem forceV_eq (v : AVal) (c : AVal → β) : forceV v c = c v := by
  cases v <;> simp only [forceV, forceWs_eq, forceW_eq]
theorem forceE_eq (e : AEntry) (c : AEntry → β) : forceE e c = c e := by
  obtain ⟨k, v, n⟩ := e; simp only [forceE, forceLit_eq, forceV_eq, forceN_eq]
theorem forceEs_eq : ∀ (l : List AEntry) (c : List AEntry → β), forceEs l c = c l
  | [], c => rfl
  | v :: r, c => by simp only [forceEs, forceE_eq, forceEs_eq r]
theorem forceNs_eq : ∀ (l : List Nat) (c : List Nat → β), forceNs l c = c l
  | [], c => rfl
  | v :: r, c => by simp only [forceNs, forceN_eq, forceNs_eq r]
theorem forceO_eq (o : AObj) (c : AObj → β) : forceO o c = c o := by
  cases o <;> simp only [forceO, forceCells_eq, forceB_eq, forceEs_eq, forceN_eq, forceNs_eq]
theorem spine_eq {α : Type} : ∀ (l : List α) (c : List α → β), spine l c = c l
  | [], c => rfl
  | x :: r, c => by simp only [spine, spine_eq r]
theorem spineEs_eq : ∀ (l : List AEntry) (c : List AEntry → β), spineEs l c = c l
  | [], c => rfl
  | ⟨k, v, n⟩ :: r, c => by simp only [spineEs, forceN_eq, spineEs_eq r]
theorem slimO_eq (o : AObj) (c : AObj → β) : slimO o c = c o := by
  cases o <;> simp only [slimO, spine_eq, spineEs_eq, forceN_eq, forceO_eq]
end force

theorem allocS_eq (s : AState) (o : AObj) : s.allocS o = s.alloc o := by
  obtain ⟨h, n, l, ro⟩ := s
  unfold AState.allocS AState.alloc
  simp only [slimO_eq, forceO_eq]

/-! ### Maps keyed by numbers -/
theorem land_one (k : Nat) : Nat.land k 1 = k % 2 := Nat.and_one_is_mod k
theorem shr_one (k : Nat) : Nat.shiftRight k 1 = k / 2 := by
  show k >>> 1 = k / 2
  simp [Nat.shiftRight_succ]

theorem get_leaf {α : Type} (k : Nat) : (Tr.leaf : Tr α).get k = none := rfl
theorem get_node_zero {α : Type} (l r : Tr α) (v : Option α) : (Tr.node l v r).get 0 = v := rfl
theorem get_node_succ {α : Type} (l r : Tr α) (v : Option α) (k : Nat) : (Tr.node l v r).get (k + 1) = if k % 2 = 0 then l.get (k / 2) else r.get (k / 2) := by
  show cond (Nat.beq (Nat.land k 1) 0) (l.get (Nat.shiftRight k 1)) (r.get (Nat.shiftRight k 1)) = _
  rw [land_one, shr_one]
  by_cases h : k % 2 = 0
  · simp [h]
  · have hb : Nat.beq (k % 2) 0 = false := by cases hq : Nat.beq (k % 2) 0 with | false => rfl | true => exact absurd (Nat.eq_of_beq_eq_true hq) h
    simp [h, hb]

theorem setK_leaf_zero {α β : Type} (a : Option α) (f : Nat) (c : Tr α → β) : Tr.setK a (f + 1) .leaf 0 c = c (.node .leaf a .leaf) := rfl
theorem setK_node_zero {α β : Type} (a : Option α) (f : Nat) (l r : Tr α) (v : Option α) (c : Tr α → β) : Tr.setK a (f + 1) (.node l v r) 0 c = c (.node l a r) := rfl
theorem setK_leaf_succ {α β : Type} (a : Option α) (f k : Nat) (c : Tr α → β) : Tr.setK a (f + 1) .leaf (k + 1) c = cond (Nat.beq (k % 2) 0) (Tr.setK a f .leaf (k / 2) fun t => c (.node t none .leaf)) (Tr.setK a f .leaf (k / 2) fun t => c (.node .leaf none t)) := by
  show cond (Nat.beq (Nat.land k 1) 0) (Tr.setK a f .leaf (Nat.shiftRight k 1) fun t => c (.node t none .leaf)) (Tr.setK a f .leaf (Nat.shiftRight k 1) fun t => c (.node .leaf none t)) = _
  rw [land_one, shr_one]
theorem setK_node_succ {α β : Type} (a : Option α) (f k : Nat) (l r : Tr α) (v : Option α) (c : Tr α → β) : Tr.setK a (f + 1) (.node l v r) (k + 1) c = cond (Nat.beq (k % 2) 0) (Tr.setK a f l (k / 2) fun t => c (.node t v r)) (Tr.setK a f r (k / 2) fun t => c (.node l v t)) := by
  show cond (Nat.beq (Nat.land k 1) 0) (Tr.setK a f l (Nat.shiftRight k 1) fun t => c (.node t v r)) (Tr.setK a f r (Nat.shiftRight k 1) fun t => c (.node l v t)) = _
  rw [land_one, shr_one]

theorem setK_spec {α : Type} (a : Option α) : ∀ (f : Nat) (t : Tr α) (k : Nat), k + 1 < 2 ^ f →
    ∃ t', (∀ (β : Type) (c : Tr α → β), Tr.setK a f t k c = c t') ∧ ∀ j, t'.get j = if j = k then a else t.get j
  | 0, t, k, h => by simp at h
  | f + 1, t, k, h => by
    cases k with
    | zero =>
      cases t with
      | leaf => exact ⟨.node .leaf a .leaf, fun β c => rfl, fun j => by cases j <;> simp [get_node_zero, get_node_succ, get_leaf]⟩
      | node l v r => exact ⟨.node l a r, fun β c => rfl, fun j => by cases j <;> simp [get_node_zero, get_node_succ]⟩
    | succ k =>
      have hk : k / 2 + 1 < 2 ^ f := by
        rw [Nat.pow_succ] at h; omega
      have key : ∀ (x y : Tr α) (v : Option α), ∃ t', (∀ (β : Type) (c : Tr α → β), (cond (Nat.beq (k % 2) 0) (Tr.setK a f x (k / 2) fun t => c (.node t v y)) (Tr.setK a f y (k / 2) fun t => c (.node x v t))) = c t') ∧
          ∀ j, t'.get j = if j = k + 1 then a else (Tr.node x v y).get j := by
        intro x y v
        by_cases hp : k % 2 = 0
        · obtain ⟨t', h1, h2⟩ := setK_spec a f x (k / 2) hk
          refine ⟨.node t' v y, fun β c => by simp [hp, h1], fun j => ?_⟩
          cases j with
          | zero => simp [get_node_zero]
          | succ j =>
            rw [get_node_succ, get_node_succ]
            by_cases hj : j % 2 = 0
            · simp only [hj, if_true, h2]
              by_cases he : j / 2 = k / 2
              · have : j = k := by omega
                simp [this]
              · have : j ≠ k := by intro e; subst e; exact he rfl
                simp [he, this]
            · have : j ≠ k := by intro e; subst e; exact hj hp
              simp [hj, this]
        · obtain ⟨t', h1, h2⟩ := setK_spec a f y (k / 2) hk
          have hb : Nat.beq (k % 2) 0 = false := by cases hq : Nat.beq (k % 2) 0 with | false => rfl | true => exact absurd (Nat.eq_of_beq_eq_true hq) hp
          refine ⟨.node x v t', fun β c => by simp [hb, h1], fun j => ?_⟩
          cases j with
          | zero => simp [get_node_zero]
          | succ j =>
            rw [get_node_succ, get_node_succ]
            by_cases hj : j % 2 = 0
            · have : j ≠ k := by intro e; subst e; exact hp hj
              simp [hj, this]
            · simp only [hj, if_false, h2]
              by_cases he : j / 2 = k / 2
              · have : j = k := by omega
                simp [this]
              · have : j ≠ k := by intro e; subst e; exact he rfl
                simp [he, this]
      cases t with
      | leaf =>
        obtain ⟨t', h1, h2⟩ := key .leaf .leaf none
        refine ⟨t', fun β c => ?_, fun j => ?_⟩
        · rw [← h1 β c, setK_leaf_succ]
        · rw [h2]; cases j <;> simp [get_node_zero, get_node_succ, get_leaf]
      | node l v r =>
        obtain ⟨t', h1, h2⟩ := key l r v
        exact ⟨t', fun β c => by rw [← h1 β c, setK_node_succ], h2⟩

theorem setK_ok {α β : Type} {a : Option α} {t : Tr α} {k : Nat} {c : Tr α → R β} {r : β} (hk : k ≤ lim) (h : Tr.setK a 40 t k c = .ok r) :
    ∃ t', c t' = .ok r ∧ ∀ j, t'.get j = if j = k then a else t.get j := by
  obtain ⟨t', h1, h2⟩ := setK_spec a 40 t k (by unfold lim at hk; omega)
  exact ⟨t', by rw [← h1 (R β) c]; exact h, h2⟩

/-! ### States -/
theorem alloc_ok {s s' : AState} {o : AObj} (h : s.alloc o = .ok s') :
    (s'.next = s.next + 1 ∧ s.next ≤ lim) ∧ s'.low = s.low ∧ s'.ro = s.ro ∧ ∀ j, s'.heap.get j = if j = s.next then some o else s.heap.get j := by
  obtain ⟨hp, n, l, ro⟩ := s
  unfold AState.alloc at h
  simp only [] at h
  by_cases hn : n ≤ lim
  · rw [Nat.ble_eq_true_of_le hn, cond_true, forceO_eq] at h
    obtain ⟨t', h1, h2⟩ := setK_ok hn h
    rw [forceN_eq] at h1
    cases h1
    exact ⟨⟨rfl, hn⟩, rfl, rfl, h2⟩
  · have : Nat.ble n lim = false := by cases hq : Nat.ble n lim with | false => rfl | true => exact absurd (Nat.le_of_ble_eq_true hq) hn
    rw [this, cond_false] at h
    cases h

theorem put_ok' {s s' : AState} {b : Nat} {o : Option AObj} (h : s.put b o = .ok s') :
    s'.next = s.next ∧ s'.low = min s.low b ∧ s'.ro = s.ro ∧ ∀ j, s'.heap.get j = if j = b then o else s.heap.get j := by
  obtain ⟨hp, n, l, ro⟩ := s
  unfold AState.put at h
  simp only [] at h
  cases hq : Nat.ble b lim with
  | false => rw [hq] at h; cases h
  | true =>
    rw [hq, cond_true] at h
    obtain ⟨t', h1, h2⟩ := setK_ok (Nat.le_of_ble_eq_true hq) h
    rw [forceN_eq] at h1
    cases h1
    exact ⟨rfl, rfl, rfl, h2⟩

theorem put_ok {s s' : AState} {b : Nat} {o : Option AObj} (hb : b ≤ lim) (h : s.put b o = .ok s') :
    s'.next = s.next ∧ s'.low = min s.low b ∧ s'.ro = s.ro ∧ ∀ j, s'.heap.get j = if j = b then o else s.heap.get j := put_ok' h

theorem write_ok' {s s' : AState} {b : Nat} {o : AObj} (h : s.write b o = .ok s') :
    s.ro ≤ b ∧ s'.next = s.next ∧ s'.low = min s.low b ∧ s'.ro = s.ro ∧ ∀ j, s'.heap.get j = if j = b then some o else s.heap.get j := by
  unfold AState.write at h
  cases hq : Nat.ble s.ro b with
  | false => rw [hq, cond_false] at h; cases h
  | true =>
    rw [hq, cond_true, slimO_eq] at h
    exact ⟨Nat.le_of_ble_eq_true hq, put_ok' h⟩

theorem write_ok {s s' : AState} {b : Nat} {o : AObj} (hb : b ≤ lim) (h : s.write b o = .ok s') :
    s.ro ≤ b ∧ s'.next = s.next ∧ s'.low = min s.low b ∧ s'.ro = s.ro ∧ ∀ j, s'.heap.get j = if j = b then some o else s.heap.get j := by
  unfold AState.write at h
  cases hq : Nat.ble s.ro b with
  | false => rw [hq, cond_false] at h; cases h
  | true =>
    rw [hq, cond_true, slimO_eq] at h
    exact ⟨Nat.le_of_ble_eq_true hq, put_ok hb h⟩

theorem get_ok {s : AState} {b : Nat} {o : AObj} (h : s.get b = .ok o) : s.heap.get b = some o := R.of_ok h

section
variable {σ : Syms} {N0 : Nat} {w0 : World}

/-- A new block, on both sides. -/
theorem Post.alloc {ρ : Ren} {s s' : AState} {w : World} {o : AObj} {O : Obj} (h : WRel σ N0 w0 ρ s w) (ha : s.alloc o = .ok s') (hf : Fresh ρ s.next s'.next) (n : Nat)
    (ho : ∀ ρ', Ext ρ ρ' → ORel σ ρ' ⟨w.heap.size, 0, n⟩ true (w.alloc O) o) :
    ∃ ρ', ρ' s.next = some ⟨w.heap.size, 0, n⟩ ∧ Post σ N0 w0 ρ s w ρ' s' (w.alloc O) := by
  obtain ⟨⟨e1, e1'⟩, e2, e3, e4⟩ := alloc_ok ha
  have hro := h.bnd.1
  have hfn : ρ s.next = none := hf s.next (Nat.le_refl _) (by omega)
  let ρ' : Ren := fun b => if b = s.next then some ⟨w.heap.size, 0, n⟩ else ρ b
  have hρ : ρ' s.next = some ⟨w.heap.size, 0, n⟩ := by simp [ρ']
  have hne : ∀ b, b ≠ s.next → ρ' b = ρ b := fun b hb => by simp [ρ', hb]
  have ext : Ext ρ ρ' := fun b L e => by
    by_cases hb : b = s.next
    · subst hb; rw [hfn] at e; cases e
    · rw [hne b hb]; exact e
  have blk : ∀ c, c < w.heap.size → (w.alloc O).heap[c]? = w.heap[c]? := fun c hc => Below.heap_alloc w O c hc
  refine ⟨ρ', hρ, ext, fun b L e => ?_, by omega, e3, by omega, fun b h1 _ => by rw [e4, if_neg (by omega)], fun b h1 => by rw [e4, if_neg (by omega)]; exact id, ?_, fun c hc _ => blk c hc, by simp⟩
  · by_cases hb : b = s.next
    · subst hb
      rw [hρ] at e
      cases e
      exact .inr ⟨Nat.le_refl _, by omega, .inl (Nat.le_refl _)⟩
    · rw [hne b hb] at e; exact .inl e
  · refine ⟨h.base.alloc h.n0 O, by have := h.n0; simp; omega, by omega, fun b b' L L' hr hr' hb hb' eb eb' hL => ?_, fun b hb => ?_, fun b L e => ?_, fun b o' hb L e => ?_⟩
    · rw [e3] at hr hr'
      rw [e4] at hb hb'
      by_cases h1 : b = s.next
      · by_cases h2 : b' = s.next
        · omega
        · exfalso
          subst h1
          rw [hne b' h2] at eb'
          rw [hρ] at eb
          cases eb
          have := (h.rng b' L' eb').1
          simp only [] at hL
          omega
      · by_cases h2 : b' = s.next
        · exfalso
          subst h2
          rw [hne b h1] at eb
          rw [hρ] at eb'
          cases eb'
          have := (h.rng b L eb).1
          simp only [] at hL
          omega
        · rw [if_neg h1] at hb
          rw [if_neg h2] at hb'
          rw [hne b h1] at eb
          rw [hne b' h2] at eb'
          exact h.inj b b' L L' hr hr' hb hb' eb eb' hL
    · rw [e4] at hb
      by_cases h1 : b = s.next
      · omega
      · rw [if_neg h1] at hb; have := h.dom b hb; omega
    · rw [e3]
      by_cases h1 : b = s.next
      · subst h1
        rw [hρ] at e
        cases e
        refine ⟨by simp, fun _ => h.n0, fun h2 => by omega⟩
      · rw [hne b h1] at e
        have := h.rng b L e
        exact ⟨by simp; omega, this.2⟩
    · rw [e4] at hb
      rw [e3]
      by_cases h1 : b = s.next
      · subst h1
        rw [if_pos rfl] at hb
        cases hb
        rw [hρ] at e
        cases e
        simpa [hro] using ho ρ' ext
      · rw [if_neg h1] at hb
        rw [hne b h1] at e
        exact (h.heap b o' hb L e).mono ext |>.of_block (blk _ (h.rng b L e).1)

/-- A block turned, on both sides. -/
theorem Post.write {ρ : Ren} {s s' : AState} {w w' : World} {b : Nat} {o : AObj} {L : Loc} (h : WRel σ N0 w0 ρ s w) (ha : s.write b o = .ok s') (hb : s.heap.get b ≠ none) (hL : ρ b = some L)
    (hw : Below N0 w w') (hs : w'.heap.size = w.heap.size) (hfr : ∀ c, c ≠ L.blk → w'.heap[c]? = w.heap[c]?) (ho : ORel σ ρ L true w' o) : Post σ N0 w0 ρ s w ρ s' w' := by
  have hbn := h.dom b hb
  have hl := h.bnd
  obtain ⟨e0, e1, e2, e3, e4⟩ := write_ok (by omega) ha
  refine ⟨Ext.refl _, fun _ _ e => .inl e, by omega, e3, by omega, fun b' h1 h2 => by rw [e4, if_neg (by omega)], fun b' h1 => ?_, ?_, fun c hc H => ?_, by omega⟩
  · rw [e4]
    by_cases hbb : b' = b
    · subst hbb; exact fun _ => hb
    · rw [if_neg hbb]; exact id
  · refine ⟨h.base.trans hw, by have := h.n0; omega, by omega, fun a a' M M' hr hr' ha1 ha2 ea ea' hM => ?_, fun a ha1 => ?_, fun a M e => ?_, fun a o' ha1 M e => ?_⟩
    · rw [e3] at hr hr'
      refine h.inj a a' M M' hr hr' ?_ ?_ ea ea' hM
      · rw [e4] at ha1; by_cases hq : a = b
        · subst hq; exact hb
        · rw [if_neg hq] at ha1; exact ha1
      · rw [e4] at ha2; by_cases hq : a' = b
        · subst hq; exact hb
        · rw [if_neg hq] at ha2; exact ha2
    · rw [e4] at ha1
      rw [e1]
      by_cases hq : a = b
      · subst hq; exact hbn
      · rw [if_neg hq] at ha1; exact h.dom a ha1
    · rw [e3, hs]; exact h.rng a M e
    · rw [e4] at ha1
      rw [e3]
      by_cases hq : a = b
      · subst hq
        rw [if_pos rfl] at ha1
        cases ha1
        rw [hL] at e
        cases e
        simpa [e0] using ho
      · rw [if_neg hq] at ha1
        refine (h.heap a o' ha1 M e).of_block (hfr _ fun hc => ?_)
        by_cases hra : s.ro ≤ a
        · exact hq (h.inj a b M L hra e0 (by rw [ha1]; simp) hb e hL hc)
        · have h1 := (h.rng a M e).2.2 (by omega)
          have h2 := (h.rng b L hL).2.1 e0
          omega
  · by_cases hc' : c = L.blk
    · exact absurd hc'.symm (H b L hbn (by omega) hL)
    · exact hfr c hc'

end
end Go.Am


/-
  The abstract machine's operations against the model's, one by one.
-/
namespace Go.Am
open Go Go.RowKit
set_option linter.unusedVariables false
set_option linter.unusedSimpArgs false

section
variable {σ : Syms} {N0 : Nat} {w0 : World} {P : Program}

/-- The model's run of an operation that hands back a value, beside the abstract one's. -/
def VSem (P : Program) (σ : Syms) (N0 : Nat) (w0 : World) (sem : Sem Value) (ρ : Ren) (s : AState) (w : World) (v : AVal) (s' : AState) : Prop :=
  ∃ u w' ρ', sem.run P w = .ok u w' ∧ VRel σ ρ' v u ∧ Post σ N0 w0 ρ s w ρ' s' w'

def USem (P : Program) (σ : Syms) (N0 : Nat) (w0 : World) (sem : Sem Unit) (ρ : Ren) (s : AState) (w : World) (s' : AState) : Prop :=
  ∃ w' ρ', sem.run P w = .ok () w' ∧ Post σ N0 w0 ρ s w ρ' s' w'

def EvOk (σ : Syms) (ρ : Ren) (ev : Operand → R AVal) (e : Operand → Value) (x : Operand) : Prop := ∀ v, ev x = .ok v → VRel σ ρ v (e x)

/-- The abstract answer of an operation and the model's. -/
def NSem (P : Program) (σ : Syms) (N0 : Nat) (w0 : World) (sem : Sem Next) (ρ : Ren) (s : AState) (w : World) (nx : ANext) (s' : AState) : Prop :=
  ∃ v, nx = .val v ∧ ∃ u w' ρ', (sem.run P w = .ok (.value u) w' ∨ (sem.run P w = .ok .skip w' ∧ u = undef)) ∧ VRel σ ρ' v u ∧ Post σ N0 w0 ρ s w ρ' s' w'

theorem VRel.undef {ρ : Ren} : VRel σ ρ aundef undef := by
  simp only [aundef, Go.undef, VRel]
  exact ⟨#[], rfl, rfl⟩

theorem NSem.of_v {sem : Sem Value} {ρ : Ren} {s : AState} {w : World} {v : AVal} {s' : AState} (h : VSem P σ N0 w0 sem ρ s w v s') :
    NSem P σ N0 w0 (do pure (.value (← sem))) ρ s w (.val v) s' := by
  obtain ⟨u, w', ρ', h1, h2, h3⟩ := h
  exact ⟨v, rfl, u, w', ρ', .inl (by simp [h1]), h2, h3⟩

theorem NSem.of_u {sem : Sem Unit} {ρ : Ren} {s : AState} {w : World} {s' : AState} (h : USem P σ N0 w0 sem ρ s w s') :
    NSem P σ N0 w0 (do sem; pure .skip) ρ s w (.val aundef) s' := by
  obtain ⟨w', ρ', h1, h3⟩ := h
  exact ⟨aundef, rfl, undef, w', ρ', .inr ⟨by simp [h1], rfl⟩, VRel.undef, h3⟩

theorem VSem.pure {sem : Sem Value} {ρ : Ren} {s : AState} {w : World} {v : AVal} {u : Value} (hw : WRel σ N0 w0 ρ s w) (h : sem.run P w = .ok u w) (hv : VRel σ ρ v u) :
    VSem P σ N0 w0 sem ρ s w v s := ⟨u, w, ρ, h, hv, Post.refl hw⟩

theorem okv_ok {v : AVal} {s : AState} {nx : ANext} {s' : AState} (h : okv v s = .ok (nx, s')) : nx = .val v ∧ s' = s := by
  simp only [okv, R.ok.injEq, Prod.mk.injEq] at h
  exact ⟨h.1.symm, h.2.symm⟩

/-! ### Types -/
theorem und_ok {t : TypeId} {d : TypeDesc} (h : und P t = .ok d) : P.underlying t = some d := R.of_ok h
theorem szOf_ok {t : TypeId} {n : Nat} (h : szOf P t = .ok n) : ∃ i, P.info? t = some i ∧ i.size = n := by
  have := R.of_ok h
  simpa [Option.map_eq_some_iff] using this
theorem byOf_ok {t : TypeId} {n : Nat} (h : byOf P t = .ok n) : ∃ i, P.info? t = some i ∧ i.bytes = n := by
  have := R.of_ok h
  simpa [Option.map_eq_some_iff] using this

theorem run_und {t : TypeId} {d : TypeDesc} (h : und P t = .ok d) (w : World) : (underlying t).run P w = .ok d w := run_underlying (und_ok h) w
theorem run_sz {t : TypeId} {n : Nat} (h : szOf P t = .ok n) (w : World) : (sizeOf t).run P w = .ok n w := by
  obtain ⟨i, h1, h2⟩ := szOf_ok h
  simp [sizeOf, typeInfo, h1, h2]
theorem run_info {t : TypeId} {i : TypeInfo} (h : P.info? t = some i) (w : World) : (typeInfo t).run P w = .ok i w := by
  simp [typeInfo, h]

theorem vOne_oneCell {v : Value} (h : vOne v = true) : v.oneCell' = true := by cases v <;> first | rfl | simp [vOne] at h

theorem VRels.lits {ρ : Ren} : ∀ {l : List Value}, (∀ v ∈ l, vOne v = true) → VRels σ ρ (l.map .lit) l
  | [], _ => rfl
  | v :: r, h => ⟨v, r, rfl, ⟨rfl, h v (by simp)⟩, VRels.lits fun x hx => h x (by simp [hx])⟩

theorem ofVal_ok {ρ : Ren} {v : Value} {a : AVal} (h : ofVal v = some a) : VRel σ ρ a v := by
  unfold ofVal at h
  split at h
  · rename_i cs
    cases hq : cs.toList.all vOne with
    | false => rw [hq] at h; cases h
    | true =>
      rw [hq, cond_true] at h
      cases h
      exact ⟨cs, rfl, VRels.lits (List.all_eq_true.1 hq)⟩
  · rename_i vs
    split at h
    · rename_i hv
      cases h
      exact ⟨vs, rfl, hv⟩
    · cases h
  · rename_i h1 h2
    cases h
    refine ⟨rfl, ?_⟩
    cases v <;> first | rfl | exact absurd rfl (h1 _) | exact absurd rfl (h2 _)

theorem ofVal_one {v : Value} {z : AVal} (h3 : ofVal v = some z) : z = .tup [] ∨ z.cells.all AVal.oneCell = true := by
  unfold ofVal at h3
  split at h3
  · rename_i cs
    cases hq : cs.toList.all vOne with
    | false => rw [hq] at h3; cases h3
    | true => rw [hq, cond_true] at h3; cases h3; right; simp [AVal.cells, AVal.oneCell]
  · split at h3
    · cases h3; exact .inl rfl
    · cases h3
  · cases h3; right; simp [AVal.cells, AVal.oneCell]

theorem zeroOf_raw {t : TypeId} {z : AVal} (h : zeroOf P t = .ok z) : ∃ i v, P.info? t = some i ∧ i.zero = some v ∧ ∀ ρ, VRel σ ρ z v := by
  have := R.of_ok h
  simp only [Option.bind_eq_some_iff] at this
  obtain ⟨v, ⟨i, h1, h2⟩, h3⟩ := this
  exact ⟨i, v, h1, h2, fun ρ => ofVal_ok h3⟩

theorem zeroOf_ok {t : TypeId} {z : AVal} (h : zeroOf P t = .ok z) : ∃ v, (∀ w, (zeroValue t).run P w = .ok v w) ∧ ∀ ρ, VRel σ ρ z v := by
  have := R.of_ok h
  simp only [Option.bind_eq_some_iff] at this
  obtain ⟨v, ⟨i, h1, h2⟩, h3⟩ := this
  exact ⟨v, fun w => by simp [zeroValue, typeInfo, h1, h2], fun ρ => ofVal_ok h3⟩

theorem zeroOf_one {t : TypeId} {z : AVal} (h : zeroOf P t = .ok z) : z = .tup [] ∨ z.cells.all AVal.oneCell = true := by
  have := R.of_ok h
  simp only [Option.bind_eq_some_iff] at this
  obtain ⟨v, _, h3⟩ := this
  exact ofVal_one h3

/-! ### Runs that ask nothing of memory -/
theorem pureRun_ok {α : Type} (w : World) : ∀ {x : Sem α} {a : α}, pureRun P x = some a → x.run P w = .ok a w
  | .pure b, a, h => by simp only [pureRun, Option.some.injEq] at h; subst h; rfl
  | .program k, a, h => by simp only [pureRun] at h; exact pureRun_ok (x := k P) w h
  | .mark _ k, a, h => by simp only [pureRun] at h; exact pureRun_ok (x := k) w h
  | .load .., a, h => by simp [pureRun] at h
  | .store .., a, h => by simp [pureRun] at h
  | .new .., a, h => by simp [pureRun] at h
  | .shape .., a, h => by simp [pureRun] at h
  | .freeze .., a, h => by simp [pureRun] at h
  | .frozen .., a, h => by simp [pureRun] at h
  | .getObj .., a, h => by simp [pureRun] at h
  | .setObj .., a, h => by simp [pureRun] at h
  | .choose .., a, h => by simp [pureRun] at h
  | .sys .., a, h => by simp [pureRun] at h
  | .halt .., a, h => by simp [pureRun] at h

theorem litV_ok {o : Option Value} {a : AVal} (h : litV o = .ok a) : ∃ v, o = some v ∧ ∀ ρ, VRel σ ρ a v := by
  obtain ⟨v, h1, h2⟩ := R.bind_ok' h
  exact ⟨v, R.of_ok h1, fun ρ => ofVal_ok (R.of_ok h2)⟩

theorem litsOf_ok {ρ : Ren} : ∀ {cs : List AVal} {l : List Value} {ws : List Value}, litsOf cs = some l → VRels σ ρ cs ws → ws = l
  | [], l, ws, h, hv => by simp only [litsOf, Option.some.injEq] at h; simp only [VRels] at hv; rw [hv, ← h]
  | .lit v :: r, l, ws, h, hv => by
    simp only [litsOf] at h
    cases hr : litsOf r with
    | none => rw [hr] at h; cases h
    | some k =>
      rw [hr] at h
      cases h
      obtain ⟨u, us, rfl, h1, h2⟩ := hv
      simp only [VRel] at h1
      rw [h1.1, litsOf_ok hr h2]
  | .sym _ :: r, l, ws, h, hv | .ptr .. :: r, l, ws, h, hv | .slice .. :: r, l, ws, h, hv | .map _ :: r, l, ws, h, hv | .clo .. :: r, l, ws, h, hv | .agg _ :: r, l, ws, h, hv | .tup _ :: r, l, ws, h, hv => by simp [litsOf] at h

theorem toVal_ok {ρ : Ren} {a : AVal} {v u : Value} (h : toVal a = some v) (hv : VRel σ ρ a u) : u = v := by
  unfold toVal at h
  split at h
  · cases h; exact hv.1
  · rename_i cs
    split at h
    · rename_i l hl
      cases h
      obtain ⟨ws, rfl, hr⟩ := hv
      rw [← litsOf_ok hl hr]
    · cases h
  · cases h

/-! ### Memory -/
theorem getCells_ok {s : AState} {b : Nat} {cs : List AVal} (h : getCells s b = .ok cs) : ∃ g, s.heap.get b = some (.cells cs g) := by
  unfold getCells at h
  obtain ⟨o, h1, h2⟩ := R.bind_ok' h
  split at h2
  · rename_i c g; cases h2; exact ⟨g, get_ok h1⟩
  · cases h2

theorem nth_ok : ∀ {l : List AVal} {i : Nat} {v : AVal}, nth l i = .ok v → l[i]? = some v
  | [], i, v, h => by simp [nth] at h
  | x :: r, 0, v, h => by simp only [nth, R.ok.injEq] at h; simp [h]
  | x :: r, i + 1, v, h => by simp only [nth] at h; simpa using nth_ok h

theorem takeN_ok {l r : List AVal} {o n : Nat} (h : takeN l o n = .ok r) : r = (l.drop o).take n ∧ r.length = n := by
  unfold takeN at h
  simp only [] at h
  cases hq : Nat.beq ((l.drop o).take n).length n with
  | false => rw [hq] at h; cases h
  | true => rw [hq, cond_true] at h; cases h; exact ⟨rfl, Nat.eq_of_beq_eq_true hq⟩

theorem isAggD_ok {t : TypeId} {d : TypeDesc} (h : und P t = .ok d) (w : World) : (isAgg t).run P w = .ok (isAggD d) w := by
  unfold isAgg
  rw [Sem.run_bind, run_und h]
  cases d <;> rfl

/-- The cells of a range of a block. -/
theorem cells_of {ρ : Ren} {s : AState} {w : World} (hw : WRel σ N0 w0 ρ s w) {b : Nat} {cs : List AVal} {g : Bool} (hb : s.heap.get b = some (.cells cs g)) {L : Loc} (hL : ρ b = some L) (o n : Nat) {l : List AVal}
    (hl : takeN cs o n = .ok l) : ∃ us, us.length = n ∧ VRels σ ρ l us ∧ ∀ j v, us[j]? = some v → w.cell? ⟨L.blk, L.off + o + j, none⟩ = some v := by
  obtain ⟨h1, h2, h3⟩ := hw.heap b _ hb L hL
  obtain ⟨hl1, hl2⟩ := takeN_ok hl
  have hex : ∀ j, j < n → ∃ u, w.cell? ⟨L.blk, L.off + o + j, none⟩ = some u ∧ ∃ v, l[j]? = some v ∧ VRel σ ρ v u := fun j hj => by
    have hjl : j < l.length := by omega
    have hv : l[j]? = some l[j] := by simp [hjl]
    have hc : cs[o + j]? = some l[j] := by
      have : l[j]? = cs[o + j]? := by
        rw [hl1, List.getElem?_take, if_pos hj, List.getElem?_drop]
      rw [← this, hv]
    obtain ⟨u, hu, hr⟩ := h1 (o + j) l[j] hc
    exact ⟨u, by rw [Nat.add_assoc]; exact hu, l[j], hv, hr⟩
  let us : List Value := (List.range n).map fun j => (w.cell? ⟨L.blk, L.off + o + j, none⟩).getD undef
  have hus : us.length = n := by simp [us]
  have hget : ∀ j, j < n → us[j]? = w.cell? ⟨L.blk, L.off + o + j, none⟩ := fun j hj => by
    obtain ⟨u, hu, _⟩ := hex j hj
    simp [us, hj, hu]
  refine ⟨us, hus, VRels.of_get (by omega) fun j v hj => ?_, fun j v hj => ?_⟩
  · have hjn : j < n := by have := (List.getElem?_eq_some_iff.1 hj).1; omega
    obtain ⟨u, hu, v', hv', hr⟩ := hex j hjn
    rw [hv'] at hj; cases hj
    exact ⟨u, by rw [hget j hjn, hu], hr⟩
  · have hjn : j < n := by have := (List.getElem?_eq_some_iff.1 hj).1; omega
    rw [← hget j hjn]; exact hj

theorem loadA_ok {ρ : Ren} {s : AState} {w : World} (hw : WRel σ N0 w0 ρ s w) {t : TypeId} {b o : Nat} {v : AVal} (h : loadA P s t b o = .ok v) {L : Loc} (hL : ρ b = some L) :
    ∃ u, (loadVar t ⟨L.blk, L.off + o, none⟩).run P w = .ok u w ∧ VRel σ ρ v u := by
  unfold loadA at h
  obtain ⟨cs, hc, h⟩ := R.bind_ok' h
  obtain ⟨d, hd, h⟩ := R.bind_ok' h
  obtain ⟨g, hg⟩ := getCells_ok hc
  cases hq : isAggD d with
  | true =>
    rw [hq, cond_true] at h
    obtain ⟨n, hn, h⟩ := R.bind_ok' h
    obtain ⟨l, hl, h⟩ := R.bind_ok' h
    cases h
    obtain ⟨us, h1, h2, h3⟩ := cells_of hw hg hL o n hl
    have hload : (loadCells ⟨L.blk, L.off + o, none⟩ n).run P w = .ok us.toArray w := by
      have := run_loadCells_list (P := P) w ⟨L.blk, L.off + o, none⟩ us (fun j v hj => by rw [Addr.add_mid]; exact h3 j v hj)
      rwa [h1] at this
    refine ⟨.agg us.toArray, ?_, ⟨us.toArray, rfl, h2⟩⟩
    simp [loadVar, isAggD_ok hd, hq, run_sz hn, hload]
  | false =>
    rw [hq, cond_false] at h
    obtain ⟨u, hu, hr⟩ := (hw.heap b _ hg L hL).1 o v (nth_ok h)
    refine ⟨u, ?_, hr⟩
    simp [loadVar, isAggD_ok hd, hq, hu]

theorem Below.setCells' {B : Nat} {w : World} {b o : Nat} : ∀ (vs : List Value) (w : World) (o : Nat), B ≤ b → Below B w (w.setCells b o vs)
  | [], w, _, _ => Below.refl _ _
  | v :: r, w, o, hb => ((Below.refl B w).setCell (p := ⟨b, o, none⟩) hb v).trans (Below.setCells' (b := b) (o := o) (w := w) r _ _ hb)

theorem heap_setCells {b : Nat} : ∀ (vs : List Value) (w : World) (o c : Nat), c ≠ b → (w.setCells b o vs).heap[c]? = w.heap[c]?
  | [], w, _, _, _ => rfl
  | v :: r, w, o, c, hc => (heap_setCells r _ _ c hc).trans (Below.heap_setCell w ⟨b, o, none⟩ v c hc)

theorem size_setCells {b : Nat} : ∀ (vs : List Value) (w : World) (o : Nat), (w.setCells b o vs).heap.size = w.heap.size
  | [], w, _ => rfl
  | v :: r, w, o => (size_setCells r _ _).trans (by simp)

theorem splice_get {l : List AVal} {o : Nat} {vs : List AVal} (h : o + vs.length ≤ l.length) (j : Nat) :
    (splice l o vs)[j]? = if o ≤ j ∧ j < o + vs.length then vs[j - o]? else l[j]? := by
  unfold splice
  by_cases h1 : j < o
  · rw [List.append_assoc, List.getElem?_append_left (by simp; omega), List.getElem?_take, if_pos h1, if_neg (by omega)]
  · by_cases h2 : j < o + vs.length
    · rw [List.append_assoc, List.getElem?_append_right (by simp; omega), List.getElem?_append_left (by simp; omega), if_pos ⟨by omega, h2⟩]
      simp only [List.length_take]
      rw [Nat.min_eq_left (by omega)]
    · rw [List.getElem?_append_right (by simp; omega), if_neg (by omega), List.getElem?_drop]
      simp only [List.length_append, List.length_take]
      rw [Nat.min_eq_left (by omega)]
      congr 1
      omega

theorem splice_length {l : List AVal} {o : Nat} {vs : List AVal} (h : o + vs.length ≤ l.length) : (splice l o vs).length = l.length := by
  unfold splice; simp; omega

/-- The cells of a block of the run's own are written. -/
theorem storeCells_ok {ρ : Ren} {s s' : AState} {w : World} (hw : WRel σ N0 w0 ρ s w) {b o : Nat} {vs : List AVal} (h : storeCellsA s b o vs = .ok s') {L : Loc} (hL : ρ b = some L) {us : List Value} (hv : VRels σ ρ vs us) :
    (storeCells ⟨L.blk, L.off + o, none⟩ us).run P w = .ok () (w.setCells L.blk (L.off + o) us) ∧ Post σ N0 w0 ρ s w ρ s' (w.setCells L.blk (L.off + o) us) := by
  unfold storeCellsA at h
  obtain ⟨ob, hb, h⟩ := R.bind_ok' h
  split at h
  case h_2 => cases h
  rename_i cs g
  obtain ⟨_, hg, h⟩ := R.bind_ok' h
  have hg := guardR_ok hg
  simp only [Bool.and_eq_true, Nat.ble_eq] at hg
  obtain ⟨hlen, hone⟩ := hg
  have hb := get_ok hb
  obtain ⟨h1, h2, h3⟩ := hw.heap b _ hb L hL
  have hul := hv.length
  have hro : s.ro ≤ b := (write_ok (by have := hw.dom b (by rw [hb]; simp); have := hw.bnd; omega) h).1
  have hcell : ∀ j, j < us.length → (w.cell? ⟨L.blk, L.off + o + j, none⟩).isSome = true := fun j hj => by
    have hjc : o + j < cs.length := by omega
    obtain ⟨u, hu, _⟩ := h1 (o + j) cs[o + j] (by simp [hjc])
    rw [Nat.add_assoc, hu]; rfl
  have hfz : ∀ j, j < us.length → w.frozen? ⟨L.blk, L.off + o + j, none⟩ = false := fun j hj => by
    rw [Nat.add_assoc]; exact h2 (by simpa using hro) (o + j) (by omega)
  have hrun := run_storeCells_cells (P := P) L.blk (L.off + o) us 0 w (fun j hj => by simpa using hcell j hj) (fun j hj => by simpa using hfz j hj) (hv.oneCell hone)
  simp only [Nat.add_zero] at hrun
  refine ⟨hrun, Post.write hw h (by rw [hb]; simp) hL (Below.setCells' (b := L.blk) (o := 0) (w := w) us w _ ((hw.rng b L hL).2.1 hro)) (size_setCells us w _) (fun c hc => heap_setCells us w _ c hc) ?_⟩
  refine ⟨fun j v hj => ?_, fun _ j hj => ?_, fun hgr => ?_⟩
  · rw [splice_get hlen] at hj
    split at hj
    · rename_i hin
      obtain ⟨u, hu, hr⟩ := hv.get (j - o) v hj
      have hju : j - o < us.length := by omega
      refine ⟨u, ?_, hr⟩
      have := World.cell?_setCells_in L.blk us (L.off + o) w hcell (j - o) hju
      rw [show L.off + o + (j - o) = L.off + j by omega] at this
      rw [this]
      simpa [hju] using hu
    · rename_i hout
      rw [World.cell?_setCells_out L.blk us (L.off + o) w _ (fun _ _ => by simp only []; omega)]
      exact h1 j v hj
  · rw [World.frozen?_setCells]
    exact h2 (by simpa using hro) j (by rw [splice_length hlen] at hj; exact hj)
  · obtain ⟨ho0, hcl, hall⟩ := h3 hgr
    refine ⟨ho0, by rw [splice_length hlen]; exact hcl, fun i hi => ?_⟩
    rw [World.frozen?_setCells]
    refine ⟨?_, (hall i hi).2⟩
    by_cases hin : L.off + o ≤ i ∧ i < L.off + o + us.length
    · have := World.cell?_setCells_in L.blk us (L.off + o) w hcell (i - (L.off + o)) (by omega)
      rw [show L.off + o + (i - (L.off + o)) = i by omega] at this
      rw [this]; rfl
    · rw [World.cell?_setCells_out L.blk us (L.off + o) w _ (fun _ _ => by simp only []; omega)]
      exact (hall i hi).1

theorem storeA_ok {ρ : Ren} {s s' : AState} {w : World} (hw : WRel σ N0 w0 ρ s w) {t : TypeId} {b o : Nat} {v : AVal} {u : Value} (h : storeA P s t b o v = .ok s') {L : Loc} (hL : ρ b = some L) (hv : VRel σ ρ v u) :
    ∃ w', (storeVar t ⟨L.blk, L.off + o, none⟩ u).run P w = .ok () w' ∧ Post σ N0 w0 ρ s w ρ s' w' := by
  unfold storeA at h
  obtain ⟨n, hn, h⟩ := R.bind_ok' h
  obtain ⟨_, hg, h⟩ := R.bind_ok' h
  have hg := Nat.eq_of_beq_eq_true (guardR_ok hg)
  have hone : v.cells.all AVal.oneCell = true := by
    unfold storeCellsA at h
    obtain ⟨ob, hb, h⟩ := R.bind_ok' h
    split at h
    case h_2 => cases h
    obtain ⟨_, hg, h⟩ := R.bind_ok' h
    have hg := guardR_ok hg
    simp only [Bool.and_eq_true] at hg
    exact hg.2
  have hc := hv.cells hone
  obtain ⟨h1, h2⟩ := storeCells_ok (P := P) hw h hL hc
  refine ⟨_, ?_, h2⟩
  have hlen : u.cells.size = n := by rw [← hg, ← hc.length]; simp
  simp [storeVar, run_sz hn, hlen, h1]

theorem VRel.cells' {ρ : Ren} {v : AVal} {w : Value} (h : VRel σ ρ v w) : VRels σ ρ v.cells w.cells.toList := by
  cases v with
  | agg cs => simp only [VRel] at h; obtain ⟨ws, rfl, h⟩ := h; exact h
  | tup cs =>
    have h' := h
    simp only [VRel] at h
    obtain ⟨ws, rfl, _⟩ := h
    exact ⟨_, _, rfl, h', rfl⟩
  | _ => exact VRel.cells h (by simp [AVal.cells, AVal.oneCell])

end
end Go.Am


/-
  The abstract machine's operations against the model's, one by one: what only computes.
-/
namespace Go.Am
open Go Go.RowKit
set_option linter.unusedVariables false
set_option linter.unusedSimpArgs false

section
variable {σ : Syms} {N0 : Nat} {w0 : World} {P : Program} {ev : Operand → R AVal} {e : Operand → Value} {ρ : Ren} {s s' : AState} {w : World} {nx : ANext}

theorem asBoolLit_ok {a : AVal} {b : Bool} {u : Value} (h : asBoolLit a = .ok b) (hv : VRel σ ρ a u) : u = .bool b := by
  unfold asBoolLit at h
  split at h
  · cases h; exact hv.1
  · cases h

theorem asNatLit_ok {a : AVal} {p : IntKind × Int} {u : Value} (h : asNatLit a = .ok p) (hv : VRel σ ρ a u) : u = .int p.1 p.2 := by
  unfold asNatLit at h
  split at h
  · cases h; exact hv.1
  · cases h

theorem asPtr_ok {a : AVal} {p : Nat × Nat} {u : Value} (h : asPtr a = .ok p) (hv : VRel σ ρ a u) : ∃ L, ρ p.1 = some L ∧ u = .pointer (some ⟨L.blk, L.off + p.2, none⟩) := by
  unfold asPtr at h
  split at h
  · cases h; exact hv
  · cases h

theorem move_ok {x : Operand} (hw : WRel σ N0 w0 ρ s w) (hx : EvOk σ ρ ev e x) (h : opMove P ev x s = .ok (nx, s')) :
    NSem P σ N0 w0 (pure (.value (e x))) ρ s w nx s' := by
  unfold opMove at h
  obtain ⟨v, h1, h⟩ := R.bind_ok' h
  obtain ⟨rfl, rfl⟩ := okv_ok h
  exact ⟨v, rfl, e x, w, ρ, .inl rfl, hx v h1, Post.refl hw⟩

theorem pick_ok {c a b : Operand} (hw : WRel σ N0 w0 ρ s w) (hc : EvOk σ ρ ev e c) (ha : EvOk σ ρ ev e a) (hb : EvOk σ ρ ev e b) (h : opPick P ev c a b s = .ok (nx, s')) :
    NSem P σ N0 w0 (do pure (.value (if ← asBool (e c) then e a else e b))) ρ s w nx s' := by
  unfold opPick at h
  obtain ⟨c', h1, h⟩ := R.bind_ok' h
  obtain ⟨t, h2, h⟩ := R.bind_ok' h
  obtain ⟨a', h3, h⟩ := R.bind_ok' h
  obtain ⟨b', h4, h⟩ := R.bind_ok' h
  obtain ⟨rfl, rfl⟩ := okv_ok h
  have := asBoolLit_ok h2 (hc _ h1)
  refine ⟨_, rfl, if t then e a else e b, w, ρ, .inl ?_, ?_, Post.refl hw⟩
  · simp [this, asBool]
  · cases t
    · exact hb _ h4
    · exact ha _ h3

theorem unOp_ok {op : UnOp} {x : Operand} (hw : WRel σ N0 w0 ρ s w) (hx : EvOk σ ρ ev e x) (h : opUnOp P ev op x s = .ok (nx, s')) :
    NSem P σ N0 w0 (do pure (.value (← Op.unary op (e x)))) ρ s w nx s' := by
  unfold opUnOp at h
  obtain ⟨v, h1, h⟩ := R.bind_ok' h
  split at h
  · rename_i v'
    obtain ⟨r, h2, h⟩ := R.bind_ok' h
    obtain ⟨rfl, rfl⟩ := okv_ok h
    obtain ⟨u, h3, h4⟩ := litV_ok (σ := σ) h2
    have hx' := hx _ h1
    simp only [VRel] at hx'
    exact NSem.of_v (VSem.pure hw (by rw [hx'.1]; exact pureRun_ok w h3) (h4 ρ))
  · cases h

theorem convert_ok {a b : TypeId} {x : Operand} (hw : WRel σ N0 w0 ρ s w) (hx : EvOk σ ρ ev e x) (h : opConvert P ev a b x s = .ok (nx, s')) :
    NSem P σ N0 w0 (do pure (.value (← convert a b (e x)))) ρ s w nx s' := by
  unfold opConvert at h
  obtain ⟨v, h1, h⟩ := R.bind_ok' h
  split at h
  · rename_i v'
    obtain ⟨r, h2, h⟩ := R.bind_ok' h
    obtain ⟨rfl, rfl⟩ := okv_ok h
    obtain ⟨u, h3, h4⟩ := litV_ok (σ := σ) h2
    have hx' := hx _ h1
    simp only [VRel] at hx'
    exact NSem.of_v (VSem.pure hw (by rw [hx'.1]; exact pureRun_ok w h3) (h4 ρ))
  · cases h

/-! ### Comparisons with nil -/
/-- What was told of nil. -/
def NilIs (d : TypeDesc) (b : Bool) (u : Value) : Prop :=
  (∃ e, d = .pointer e ∧ ((b = true ∧ u = .pointer none) ∨ (b = false ∧ ∃ A, u = .pointer (some A)))) ∨
  (∃ e, d = .slice e ∧ ((b = true ∧ ∃ n c, u = .slice none n c) ∨ (b = false ∧ ∃ A n c, u = .slice (some A) n c))) ∨
  (∃ k e, d = .map k e ∧ ((b = true ∧ u = .map none) ∨ (b = false ∧ ∃ A, u = .map (some A)))) ∨
  (∃ p q v, d = .func p q v ∧ ((b = true ∧ u = .nilFunc) ∨ (b = false ∧ ∃ f a c, u = .func f a c)))

theorem nilOf_ok {d : TypeDesc} {a : AVal} {b : Bool} {u : Value} (h : nilOf d a = .ok b) (hv : VRel σ ρ a u) : NilIs d b u := by
  unfold nilOf at h
  split at h
  · cases h; exact .inl ⟨_, rfl, .inl ⟨rfl, hv.1⟩⟩
  · cases h; obtain ⟨L, _, h⟩ := hv; exact .inl ⟨_, rfl, .inr ⟨rfl, _, h⟩⟩
  · cases h; exact .inr (.inl ⟨_, rfl, .inl ⟨rfl, _, _, hv.1⟩⟩)
  · rename_i c
    cases h
    cases c with
    | known k => simp only [VRel] at hv; obtain ⟨L, _, h⟩ := hv; exact .inr (.inl ⟨_, rfl, .inr ⟨rfl, _, _, _, h⟩⟩)
    | grown k => simp only [VRel] at hv; obtain ⟨L, _, _, h, _⟩ := hv; exact .inr (.inl ⟨_, rfl, .inr ⟨rfl, _, _, _, h⟩⟩)
  · cases h; exact .inr (.inr (.inl ⟨_, _, rfl, .inl ⟨rfl, hv.1⟩⟩))
  · cases h; obtain ⟨L, _, h⟩ := hv; exact .inr (.inr (.inl ⟨_, _, rfl, .inr ⟨rfl, _, h⟩⟩))
  · cases h; exact .inr (.inr (.inr ⟨_, _, _, rfl, .inl ⟨rfl, hv.1⟩⟩))
  · cases h; obtain ⟨ws, h, _⟩ := hv; exact .inr (.inr (.inr ⟨_, _, _, rfl, .inr ⟨rfl, _, _, _, h⟩⟩))
  · cases h

theorem equalIn_nil (k : Nat) {t : TypeId} {d : TypeDesc} {a b c : Bool} {u v : Value} (hd : P.underlying t = some d) (hu : NilIs d a u) (hv : NilIs d b v)
    (hc : (match a, b with | true, true => some true | true, false => some false | false, true => some false | false, false => none) = some c) (w : World) : (Op.equalIn (k + 1) t u v).run P w = .ok c w := by
  have und : (underlying t).run P w = .ok d w := run_underlying hd w
  unfold Op.equalIn
  rw [Sem.run_bind, und, Result.andThen_ok]
  rcases hu with ⟨e, rfl, hu⟩ | ⟨e, rfl, hu⟩ | ⟨k, e, rfl, hu⟩ | ⟨p, q, r, rfl, hu⟩ <;> rcases hv with ⟨e', he, hv⟩ | ⟨e', he, hv⟩ | ⟨k', e', he, hv⟩ | ⟨p', q', r', he, hv⟩ <;> (try cases he)
  · rcases hu with ⟨rfl, rfl⟩ | ⟨rfl, A, rfl⟩ <;> rcases hv with ⟨rfl, rfl⟩ | ⟨rfl, B, rfl⟩ <;> simp at hc <;> subst hc <;> rfl
  · rcases hu with ⟨rfl, n, m, rfl⟩ | ⟨rfl, A, n, m, rfl⟩ <;> rcases hv with ⟨rfl, n', m', rfl⟩ | ⟨rfl, B, n', m', rfl⟩ <;> simp at hc <;> subst hc <;> rfl
  · rcases hu with ⟨rfl, rfl⟩ | ⟨rfl, A, rfl⟩ <;> rcases hv with ⟨rfl, rfl⟩ | ⟨rfl, B, rfl⟩ <;> simp at hc <;> subst hc <;> rfl
  · rcases hu with ⟨rfl, rfl⟩ | ⟨rfl, A, A', A'', rfl⟩ <;> rcases hv with ⟨rfl, rfl⟩ | ⟨rfl, B, B', B'', rfl⟩ <;> simp at hc <;> subst hc <;> rfl

theorem equal_nil {t : TypeId} {d : TypeDesc} {a b c : Bool} {u v : Value} (hd : P.underlying t = some d) (hu : NilIs d a u) (hv : NilIs d b v)
    (hc : (match a, b with | true, true => some true | true, false => some false | false, true => some false | false, false => none) = some c) (w : World) : (Op.equal t u v).run P w = .ok c w :=
  equalIn_nil 9999 hd hu hv hc w

theorem eqGuard_nil {op : BinOp} {t : TypeId} {d : TypeDesc} {x y : Operand} {a b : Bool} {u v : Value} (hu : NilIs d a u) (hv : NilIs d b v) (w : World) : (eqGuard op t x y u v).run P w = .ok () w := by
  unfold eqGuard
  rcases hu with ⟨e, rfl, hu⟩ | ⟨e, rfl, hu⟩ | ⟨k, e, rfl, hu⟩ | ⟨p, q, r, rfl, hu⟩
  · rcases hu with ⟨rfl, rfl⟩ | ⟨rfl, A, rfl⟩ <;> cases op <;> simp
  · rcases hu with ⟨rfl, n, m, rfl⟩ | ⟨rfl, A, n, m, rfl⟩ <;> cases op <;> simp
  · rcases hu with ⟨rfl, rfl⟩ | ⟨rfl, A, rfl⟩ <;> cases op <;> simp
  · rcases hu with ⟨rfl, rfl⟩ | ⟨rfl, A, A', A'', rfl⟩ <;> cases op <;> simp

theorem binOp_eql {t : TypeId} {d : TypeDesc} {a b : Bool} {u v : Value} (hu : NilIs d a u) (hv : NilIs d b v) : binOp .eql t u v = (do pure (.bool (← Op.equal t u v))) ∧ binOp .neq t u v = (do pure (.bool (!(← Op.equal t u v)))) := by
  rcases hu with ⟨e, rfl, hu⟩ | ⟨e, rfl, hu⟩ | ⟨k, e, rfl, hu⟩ | ⟨p, q, r, rfl, hu⟩
  · rcases hu with ⟨rfl, rfl⟩ | ⟨rfl, A, rfl⟩ <;> exact ⟨rfl, rfl⟩
  · rcases hu with ⟨rfl, n, m, rfl⟩ | ⟨rfl, A, n, m, rfl⟩ <;> exact ⟨rfl, rfl⟩
  · rcases hu with ⟨rfl, rfl⟩ | ⟨rfl, A, rfl⟩ <;> exact ⟨rfl, rfl⟩
  · rcases hu with ⟨rfl, rfl⟩ | ⟨rfl, A, A', A'', rfl⟩ <;> exact ⟨rfl, rfl⟩

theorem aeqNil_ok {t : TypeId} {x y : AVal} {c : Bool} {u v : Value} (h : aeqNil P t x y = .ok c) (hu : VRel σ ρ x u) (hv : VRel σ ρ y v) (ox oy : Operand) (w : World) :
    (do eqGuard .eql t ox oy u v; binOp .eql t u v : Sem Value).run P w = .ok (.bool c) w ∧ (do eqGuard .neq t ox oy u v; binOp .neq t u v : Sem Value).run P w = .ok (.bool (!c)) w := by
  unfold aeqNil at h
  obtain ⟨d, h1, h⟩ := R.bind_ok' h
  obtain ⟨a, h2, h⟩ := R.bind_ok' h
  obtain ⟨b, h3, h⟩ := R.bind_ok' h
  have hx := nilOf_ok h2 hu
  have hy := nilOf_ok h3 hv
  have heq := equal_nil (c := c) (und_ok h1) hx hy (by cases a <;> cases b <;> first | (cases h; rfl) | cases h) w
  obtain ⟨e1, e2⟩ := binOp_eql (t := t) hx hy
  constructor
  · rw [Sem.run_bind, eqGuard_nil hx hy]; simp [e1, heq]
  · rw [Sem.run_bind, eqGuard_nil hx hy]; simp [e2, heq]

end
end Go.Am


/-
  The abstract machine's operations against the model's: comparisons, addresses, parts.
-/
namespace Go.Am
open Go Go.RowKit
set_option linter.unusedVariables false
set_option linter.unusedSimpArgs false

section
variable {σ : Syms} {N0 : Nat} {w0 : World} {P : Program} {ev : Operand → R AVal} {e : Operand → Value} {ρ : Ren} {s s' : AState} {w : World} {nx : ANext}

theorem sameInts_ok : ∀ {l l' : List AVal} {us us' : List Value}, sameInts l l' = true → VRels σ ρ l us → VRels σ ρ l' us' → us = us' ∧ ∀ u ∈ us, ∃ k n, u = .int k n
  | [], [], us, us', _, h, h' => by
    simp only [VRels] at h h'
    subst h; subst h'
    exact ⟨rfl, by simp⟩
  | .sym i :: r, .sym j :: r', us, us', hs, ⟨u, ut, h1, h2, h3⟩, ⟨v, vt, k1, k2, k3⟩ => by
    simp only [sameInts, Bool.and_eq_true] at hs
    obtain ⟨e1, e2⟩ := sameInts_ok hs.2 h3 k3
    simp only [VRel] at h2 k2
    have := Nat.eq_of_beq_eq_true hs.1
    subst this; subst h1; subst k1; subst h2; subst k2; subst e1
    exact ⟨rfl, fun x hx => by rcases List.mem_cons.1 hx with rfl | hx; exact ⟨_, _, rfl⟩; exact e2 x hx⟩
  | .lit (.int k n) :: r, .lit (.int k' n') :: r', us, us', hs, ⟨u, ut, h1, h2, h3⟩, ⟨v, vt, k1, k2, k3⟩ => by
    simp only [sameInts, Bool.and_eq_true, decide_eq_true_eq] at hs
    obtain ⟨e1, e2⟩ := sameInts_ok hs.2 h3 k3
    simp only [VRel] at h2 k2
    obtain ⟨⟨rfl, rfl⟩, _⟩ := hs
    obtain ⟨rfl, _⟩ := h2; obtain ⟨rfl, _⟩ := k2
    subst h1; subst k1; subst e1
    exact ⟨rfl, fun x hx => by rcases List.mem_cons.1 hx with rfl | hx; exact ⟨_, _, rfl⟩; exact e2 x hx⟩

theorem forIn_stay {β : Type} (b : β) (f : Nat → β → Sem (ForInStep β)) (w : World) : ∀ (l : List Nat), (∀ i ∈ l, (f i b).run P w = .ok (.yield b) w) → (forIn l b f).run P w = .ok b w
  | [], _ => by simp
  | i :: l, h => by
    rw [List.forIn_cons, Sem.run_bind, h i (by simp), Result.andThen_ok]
    exact forIn_stay b f w l fun j hj => h j (by simp [hj])

theorem equalIn_ints (d : Nat) {t el : TypeId} {n : Nat} {k0 : IntKind} (us : Array Value) (ht : P.underlying t = some (.array n el)) (he : P.underlying el = some (.int k0)) (hsz : (P.info? el).map (·.size) = some 1)
    (hn : us.size = n) (hi : ∀ u ∈ us.toList, ∃ k m, u = .int k m) (w : World) : (Op.equalIn (d + 2) t (.agg us) (.agg us)).run P w = .ok true w := by
  unfold Op.equalIn
  obtain ⟨i0, hi0, hi1⟩ := Option.map_eq_some_iff.1 hsz
  have hsize : (sizeOf el).run P w = .ok 1 w := by simp [sizeOf, typeInfo, hi0, hi1]
  have hpart : ∀ i (h : i < us.size), (part el us (i * 1)).run P w = .ok us[i] w := fun i h => by
    have hagg : (isAgg el).run P w = .ok false w := by
      unfold isAgg; rw [Sem.run_bind, run_underlying he]; rfl
    simp [part, hagg, h]
  rw [Sem.run_bind, run_underlying ht, Result.andThen_ok]
  simp only [Sem.run_bind, hsize, Result.andThen_ok, Std.Legacy.Range.forIn_eq_forIn_range']
  rw [forIn_stay (P := P)]
  · simp
  · intro i hmem
    have hlt : i < us.size := by
      simp [List.mem_range'] at hmem
      omega
    obtain ⟨k, m, hu⟩ := hi us[i] (by simp)
    simp only [Sem.run_bind, hpart i hlt, Result.andThen_ok, hu]
    rw [run_equalIn_int w d el k k0 m m he]
    simp

theorem aeqSame_ok {t : TypeId} {x y : AVal} {c : Bool} {u v : Value} (h : aeqSame P t x y = .ok c) (hu : VRel σ ρ x u) (hv : VRel σ ρ y v) (ox oy : Operand) (w : World) :
    (do eqGuard .eql t ox oy u v; binOp .eql t u v : Sem Value).run P w = .ok (.bool c) w ∧ (do eqGuard .neq t ox oy u v; binOp .neq t u v : Sem Value).run P w = .ok (.bool (!c)) w := by
  unfold aeqSame at h
  split at h
  · rename_i l l'
    cases hq : (sameInts l l' && intArray P t l.length) with
    | false => rw [hq] at h; cases h
    | true =>
      rw [hq, cond_true] at h
      cases h
      simp only [Bool.and_eq_true] at hq
      obtain ⟨us, rfl, hus⟩ := hu
      obtain ⟨vs, rfl, hvs⟩ := hv
      obtain ⟨e1, e2⟩ := sameInts_ok hq.1 hus hvs
      have : us = vs := by rw [← Array.toList_inj]; exact e1
      subst this
      have hi := hq.2
      unfold intArray at hi
      split at hi
      case h_2 => cases hi
      rename_i m el hm
      simp only [Bool.and_eq_true, decide_eq_true_eq] at hi
      obtain ⟨⟨⟨h1, h2⟩, h3⟩, h4⟩ := hi
      have h1 := Nat.eq_of_beq_eq_true h1
      split at h2
      case h_2 => cases h2
      rename_i k0 hk0
      have hlen : us.size = m := by have := hus.length; simp at this; omega
      have heq := equalIn_ints (P := P) 9998 us hm hk0 h3 hlen e2 w
      have hg : P.eqGuardType P.depth t = false := by simpa using h4
      constructor
      · rw [Sem.run_bind, run_eqGuard_agg w .eql t ox oy us us hg, Result.andThen_ok, run_eql_struct, heq]; rfl
      · rw [Sem.run_bind, run_eqGuard_agg w .neq t ox oy us us hg, Result.andThen_ok, run_neq_struct, heq]; rfl
  · exact aeqNil_ok h hu hv ox oy w

theorem kindNo_ok {k j : IntKind} (h : Nat.beq (kindNo k) (kindNo j) = true) : k = j := by
  cases k <;> cases j <;> first | rfl | cases h

theorem intEq_ok (a b : Int) : intEq a b = (a == b) := by
  have hb : ∀ m n : Nat, Nat.beq m n = decide (m = n) := fun m n => by
    cases hq : Nat.beq m n with
    | true => exact (decide_eq_true (Nat.eq_of_beq_eq_true hq)).symm
    | false => exact (decide_eq_false fun e => by subst e; rw [Nat.beq_refl] at hq; cases hq).symm
  rw [Bool.eq_iff_iff, beq_iff_eq]
  cases a <;> cases b <;> simp only [intEq, hb, decide_eq_true_eq, Bool.false_eq_true, false_iff]
  · exact ⟨fun e => by rw [e], fun e => Int.ofNat.inj e⟩
  · exact fun e => by cases e
  · exact fun e => by cases e
  · exact ⟨fun e => by rw [e], fun e => Int.negSucc.inj e⟩

theorem intLt_ok (a b : Int) : intLt a b = decide (a < b) := by
  have hb : ∀ m n : Nat, (Nat.blt m n = true) ↔ m < n := fun m n => ⟨fun h => Nat.le_of_ble_eq_true h, fun h => Nat.ble_eq_true_of_le h⟩
  rw [Bool.eq_iff_iff, decide_eq_true_eq]
  cases a <;> cases b <;> simp only [intLt, hb, Bool.false_eq_true, false_iff, true_iff, Int.ofNat_eq_natCast] <;> omega

theorem wrap_nat {k : IntKind} {n : Nat} (h : n ≤ kindTop k) : k.wrap n = n := by
  cases k <;> simp [kindTop, IntKind.wrap, IntKind.bits, IntKind.signed] at h ⊢ <;> omega

theorem natIn_ok {k : IntKind} {n : Nat} {v : Value} (h : natIn k n = some v) : v = .int k (k.wrap n) := by
  unfold natIn at h
  cases hq : Nat.ble n (kindTop k) with
  | false => rw [hq] at h; cases h
  | true =>
    rw [hq, cond_true, forceN_eq] at h
    cases h
    rw [wrap_nat (Nat.le_of_ble_eq_true hq)]
    rfl

theorem fastBin_ok {op : BinOp} {k : IntKind} {a b : Int} {v : Value} (h : fastBin op k a b = some v) (t : TypeId) (ox oy : Operand) (w : World) :
    (do eqGuard op t ox oy (.int k a) (.int k b); binOp op t (.int k a) (.int k b) : Sem Value).run P w = .ok v w ∧ vOne v = true := by
  have hg : (eqGuard op t ox oy (.int k a) (.int k b)).run P w = .ok () w := by cases op <;> rfl
  rw [Sem.run_bind, hg, Result.andThen_ok]
  unfold fastBin at h
  split at h
  · cases h; rw [Go.binOp_eql, intEq_ok]; exact ⟨rfl, rfl⟩
  · cases h; rw [Go.binOp_neq, intEq_ok]; exact ⟨rfl, rfl⟩
  · cases h; rw [binOp_lss, intLt_ok]; exact ⟨rfl, rfl⟩
  · cases h; rw [binOp_leq, intLt_ok]; refine ⟨?_, rfl⟩; by_cases h : a ≤ b <;> simp [h] <;> omega
  · cases h; rw [binOp_gtr, intLt_ok]; exact ⟨rfl, rfl⟩
  · cases h; rw [binOp_geq, intLt_ok]; refine ⟨?_, rfl⟩; by_cases h : a ≥ b <;> simp [h] <;> omega
  · split at h
    · rename_i x y
      rw [binOp_add, natIn_ok h]
      exact ⟨rfl, rfl⟩
    · cases h
  · split at h
    · rename_i x y
      cases hq : Nat.ble y x with
      | false => rw [hq] at h; cases h
      | true =>
        rw [hq, cond_true] at h
        have hle := Nat.le_of_ble_eq_true hq
        rw [binOp_sub, natIn_ok h]
        refine ⟨?_, rfl⟩
        show Sem.run P (pure (Value.int k (k.wrap (Int.ofNat x - Int.ofNat y)))) w = _
        have : Int.ofNat x - Int.ofNat y = ((Nat.sub x y : Nat) : Int) := by
          show (x : Int) - (y : Int) = ((x - y : Nat) : Int)
          omega
        rw [this]
        rfl
    · cases h
  · split at h
    · rename_i x y
      rw [binOp_mul, natIn_ok h]
      exact ⟨rfl, rfl⟩
    · cases h
  · cases h

theorem abinOp_ok {op : BinOp} {t : TypeId} {ox oy : Operand} {x y r : AVal} {u v : Value} (h : abinOp P op t ox oy x y = .ok r) (hu : VRel σ ρ x u) (hv : VRel σ ρ y v) (w : World) :
    ∃ z, (do eqGuard op t ox oy u v; binOp op t u v : Sem Value).run P w = .ok z w ∧ VRel σ ρ r z := by
  unfold abinOp at h
  split at h
  · rename_i r' hf
    rw [forceV_eq] at h
    cases h
    unfold fastOp at hf
    split at hf
    · rename_i k a j b
      cases hk : Nat.beq (kindNo k) (kindNo j) with
      | false => rw [hk] at hf; cases hf
      | true =>
        rw [hk, cond_true] at hf
        have := kindNo_ok hk
        subst this
        split at hf
        · rename_i z hz
          cases hf
          obtain ⟨rfl, _⟩ := hu
          obtain ⟨rfl, _⟩ := hv
          obtain ⟨h1, h2⟩ := fastBin_ok (P := P) hz t ox oy w
          exact ⟨z, h1, rfl, h2⟩
        · cases hf
    · cases hf
  unfold slowOp at h
  split at h
  · rename_i a b ha hb
    obtain ⟨z, h1, h2⟩ := litV_ok (σ := σ) h
    rw [toVal_ok ha hu, toVal_ok hb hv]
    exact ⟨z, pureRun_ok w h1, h2 ρ⟩
  · split at h
    · obtain ⟨c, h1, h⟩ := R.bind_ok' h
      cases h
      exact ⟨_, (aeqSame_ok h1 hu hv ox oy w).1, rfl, rfl⟩
    · obtain ⟨c, h1, h⟩ := R.bind_ok' h
      cases h
      exact ⟨_, (aeqSame_ok h1 hu hv ox oy w).2, rfl, rfl⟩
    · cases h

theorem binOp_ok {op : BinOp} {t : TypeId} {x y : Operand} (hw : WRel σ N0 w0 ρ s w) (hx : EvOk σ ρ ev e x) (hy : EvOk σ ρ ev e y) (h : opBinOp P ev op t x y s = .ok (nx, s')) :
    NSem P σ N0 w0 (do pure (.value (← (do eqGuard op t x y (e x) (e y); binOp op t (e x) (e y))))) ρ s w nx s' := by
  unfold opBinOp at h
  obtain ⟨a, h1, h⟩ := R.bind_ok' h
  obtain ⟨b, h2, h⟩ := R.bind_ok' h
  obtain ⟨r, h3, h⟩ := R.bind_ok' h
  obtain ⟨rfl, rfl⟩ := okv_ok h
  obtain ⟨z, h4, h5⟩ := abinOp_ok h3 (hx a h1) (hy b h2) w
  exact NSem.of_v (VSem.pure hw h4 h5)

theorem nilCheck_ok {x : Operand} (hw : WRel σ N0 w0 ρ s w) (hx : EvOk σ ρ ev e x) (h : opNilCheck P ev x s = .ok (nx, s')) :
    ∃ v, nx = .val v ∧ s' = s ∧ VRel σ ρ v (e x) ∧ e x ≠ .pointer none ∧ e x ≠ .nilIface ∧ e x ≠ .nilFunc ∧ ∀ n f c, e x ≠ .func (.method n) f c := by
  unfold opNilCheck at h
  obtain ⟨a, h1, h⟩ := R.bind_ok' h
  obtain ⟨b, h2, h⟩ := R.bind_ok' h
  obtain ⟨rfl, rfl⟩ := okv_ok h
  have hv := hx a h1
  unfold nilCk at h2
  split at h2
  · cases h2
  · cases h2
  · cases h2
  · cases h2
  rename_i n1 n2 n3 n4
  cases h2
  refine ⟨_, rfl, rfl, hv, ?_⟩
  cases a with
  | slice b o l c => cases c <;> simp only [VRel] at hv <;> (obtain ⟨_, hv⟩ := hv; first | (obtain ⟨_, hv⟩ := hv; first | (obtain ⟨_, hv, _⟩ := hv; rw [hv]) | (rw [hv]))) <;> simp
  | lit v =>
    simp only [VRel] at hv
    rw [hv.1]
    refine ⟨fun e => n1 (by rw [e]), fun e => n2 (by rw [e]), fun e => n3 (by rw [e]), fun n f c e => n4 _ _ _ (by rw [e])⟩
  | sym i => simp only [VRel] at hv; rw [hv]; simp
  | ptr b o => simp only [VRel] at hv; obtain ⟨_, _, hv⟩ := hv; rw [hv]; simp
  | map b => simp only [VRel] at hv; obtain ⟨_, _, hv⟩ := hv; rw [hv]; simp
  | clo f cs => simp only [VRel] at hv; obtain ⟨_, hv, _⟩ := hv; rw [hv]; simp
  | agg cs => simp only [VRel] at hv; obtain ⟨_, hv, _⟩ := hv; rw [hv]; simp
  | tup cs => simp only [VRel] at hv; obtain ⟨_, hv, _⟩ := hv; rw [hv]; simp

theorem extract_ok {x : Operand} {i : Nat} (hw : WRel σ N0 w0 ρ s w) (hx : EvOk σ ρ ev e x) (h : opExtract P ev x i s = .ok (nx, s')) :
    NSem P σ N0 w0 (do pure (.value (← Instr.extract (e x) i))) ρ s w nx s' := by
  unfold opExtract at h
  obtain ⟨a, h1, h⟩ := R.bind_ok' h
  split at h
  · rename_i vs
    obtain ⟨v, h2, h⟩ := R.bind_ok' h
    obtain ⟨rfl, rfl⟩ := okv_ok h
    obtain ⟨ws, hws, hr⟩ := hx _ h1
    obtain ⟨u, hu, hv⟩ := hr.get i v (nth_ok h2)
    refine NSem.of_v (VSem.pure hw (u := u) ?_ hv)
    rw [hws]
    have : ws[i]? = some u := by rw [← Array.getElem?_toList]; exact hu
    simp [Instr.extract, this]
  · cases h

theorem evs_ok : ∀ {l : List Operand} {vs : List AVal}, (∀ x ∈ l, EvOk σ ρ ev e x) → evs ev l = .ok vs → VRels σ ρ vs (l.map e)
  | [], vs, _, h => by cases h; rfl
  | x :: l, vs, hx, h => by
    unfold evs at h
    obtain ⟨v, h1, h⟩ := R.bind_ok' h
    obtain ⟨r, h2, h⟩ := R.bind_ok' h
    cases h
    exact ⟨e x, l.map e, rfl, hx x (by simp) v h1, evs_ok (fun y hy => hx y (by simp [hy])) h2⟩

theorem makeFunc_ok {f : FuncId} {first caps : Array Operand} (hw : WRel σ N0 w0 ρ s w) (hx : ∀ x ∈ caps.toList, EvOk σ ρ ev e x) (h : opMakeFunc P ev f first caps s = .ok (nx, s')) :
    NSem P σ N0 w0 (do pure (.value (← Instr.makeFunc (.func f) (first.map e) (caps.map e)))) ρ s w nx s' := by
  unfold opMakeFunc at h
  obtain ⟨_, h1, h⟩ := R.bind_ok' h
  obtain ⟨vs, h2, h⟩ := R.bind_ok' h
  obtain ⟨rfl, rfl⟩ := okv_ok h
  have h1 := Nat.eq_of_beq_eq_true (guardR_ok h1)
  have hf : first = #[] := Array.eq_empty_of_size_eq_zero h1
  subst hf
  refine NSem.of_v (VSem.pure hw (u := .func (.func f) #[] (caps.map e)) (by simp [Instr.makeFunc]) ⟨caps.map e, rfl, ?_⟩)
  rw [Array.toList_map]
  exact evs_ok hx h2

theorem idxOf_ok {i : Int} {n k : Nat} (h : idxOf i n = .ok k) : i = k ∧ k < n := by
  unfold idxOf at h
  split at h
  · rename_i m
    cases hq : Nat.blt m n with
    | false => rw [hq] at h; cases h
    | true => rw [hq, cond_true] at h; cases h; exact ⟨rfl, Nat.le_of_ble_eq_true hq⟩
  · cases h

theorem partA_ok {t : TypeId} {cs : List AVal} {off : Nat} {v : AVal} {us : Array Value} (h : partA P t cs off = .ok v) (hr : VRels σ ρ cs us.toList) (w : World) :
    ∃ u, (part t us off).run P w = .ok u w ∧ VRel σ ρ v u := by
  unfold partA at h
  obtain ⟨d, h1, h⟩ := R.bind_ok' h
  cases hq : isAggD d with
  | true =>
    rw [hq, cond_true] at h
    obtain ⟨n, h2, h⟩ := R.bind_ok' h
    obtain ⟨l, h3, h⟩ := R.bind_ok' h
    cases h
    obtain ⟨h4, h5⟩ := takeN_ok h3
    refine ⟨.agg (us.extract off (off + n)), by simp [part, isAggD_ok h1, hq, run_sz h2], ⟨_, rfl, ?_⟩⟩
    rw [h4, Array.toList_extract, List.extract_eq_take_drop]
    have := (hr.drop off).take n
    rwa [show off + n - off = n by omega]
  | false =>
    rw [hq, cond_false] at h
    obtain ⟨u, hu, hv⟩ := hr.get off v (nth_ok h)
    refine ⟨u, ?_, hv⟩
    have : us[off]? = some u := by rw [← Array.getElem?_toList]; exact hu
    simp [part, isAggD_ok h1, hq, this]

theorem field_ok {t : TypeId} {x : Operand} {f : Nat} (hw : WRel σ N0 w0 ρ s w) (hx : EvOk σ ρ ev e x) (h : opField P ev t x f s = .ok (nx, s')) :
    NSem P σ N0 w0 (do pure (.value (← Instr.field t (e x) f))) ρ s w nx s' := by
  unfold opField at h
  obtain ⟨a, h1, h⟩ := R.bind_ok' h
  obtain ⟨d, h2, h⟩ := R.bind_ok' h
  split at h
  · rename_i cs fs
    obtain ⟨fd, h3, h⟩ := R.bind_ok' h
    obtain ⟨v, h4, h⟩ := R.bind_ok' h
    obtain ⟨rfl, rfl⟩ := okv_ok h
    obtain ⟨us, hus, hr⟩ := hx _ h1
    obtain ⟨u, hu, hv⟩ := partA_ok h4 hr w
    refine NSem.of_v (VSem.pure hw (u := u) ?_ hv)
    rw [hus]
    simp [Instr.field, run_und h2, R.of_ok h3, asAgg, hu]
  · cases h

theorem index_ok {t : TypeId} {x i : Operand} (hw : WRel σ N0 w0 ρ s w) (hx : EvOk σ ρ ev e x) (hi : EvOk σ ρ ev e i) (h : opIndex P ev t x i s = .ok (nx, s')) :
    NSem P σ N0 w0 (do pure (.value (← Instr.index t (e x) (e i)))) ρ s w nx s' := by
  unfold opIndex at h
  obtain ⟨a, h1, h⟩ := R.bind_ok' h
  obtain ⟨⟨k, n⟩, h2, h⟩ := R.bind_ok' h
  obtain ⟨d, h3, h⟩ := R.bind_ok' h
  obtain ⟨b, h4, h⟩ := R.bind_ok' h
  split at h
  · rename_i len el cs _
    obtain ⟨j, h5, h⟩ := R.bind_ok' h
    obtain ⟨sz, h6, h⟩ := R.bind_ok' h
    obtain ⟨v, h7, h⟩ := R.bind_ok' h
    obtain ⟨rfl, rfl⟩ := okv_ok h
    obtain ⟨us, hus, hr⟩ := hx _ h4
    obtain ⟨u, hu, hv⟩ := partA_ok h7 hr w
    have hn := asNatLit_ok h2 (hi _ h1)
    obtain ⟨rfl, hj⟩ := idxOf_ok h5
    refine NSem.of_v (VSem.pure hw (u := u) ?_ hv)
    rw [hus, hn]
    have hlt : 0 ≤ (j : Int) ∧ (j : Int) < (len : Int) := by omega
    simp only [Instr.index, asIntOf, Sem.run_bind, Sem.run_pure, Result.andThen_ok, run_und h3, if_pos hlt, run_sz h6, Int.toNat_natCast, hu]
  · rename_i bs _
    cases n with
    | negSucc j => cases h
    | ofNat j =>
      obtain ⟨c, h5, h⟩ := R.bind_ok' h
      obtain ⟨rfl, rfl⟩ := okv_ok h
      obtain ⟨hus, _⟩ := hx _ h4
      have hn := asNatLit_ok h2 (hi _ h1)
      refine NSem.of_v (VSem.pure hw (u := .int .u8 c.toNat) ?_ ⟨rfl, rfl⟩)
      rw [hus, hn]
      have hb := R.of_ok h5
      simp [Instr.index, asIntOf, run_und h3, hb]
  · cases h

theorem fieldAddr_ok {t : TypeId} {x : Operand} {f : Nat} (hw : WRel σ N0 w0 ρ s w) (hx : EvOk σ ρ ev e x) (h : opFieldAddr P ev t x f s = .ok (nx, s')) :
    NSem P σ N0 w0 (do pure (.value (← Instr.fieldAt t (e x) f))) ρ s w nx s' := by
  unfold opFieldAddr at h
  obtain ⟨a, h1, h⟩ := R.bind_ok' h
  obtain ⟨⟨b, o⟩, h2, h⟩ := R.bind_ok' h
  obtain ⟨d, h3, h⟩ := R.bind_ok' h
  split at h
  · rename_i fs
    obtain ⟨fd, h4, h⟩ := R.bind_ok' h
    obtain ⟨n, h5, h⟩ := R.bind_ok' h
    obtain ⟨_, h6, h⟩ := R.bind_ok' h
    obtain ⟨rfl, rfl⟩ := okv_ok h
    obtain ⟨L, hL, hp⟩ := asPtr_ok h2 (hx _ h1)
    have hn : n ≠ 0 := by have := Nat.le_of_ble_eq_true (guardR_ok h6); omega
    refine NSem.of_v (VSem.pure hw (u := .pointer (some ⟨L.blk, L.off + (o + fd.offset), none⟩)) ?_ ⟨L, hL, rfl⟩)
    rw [hp]
    simp [Instr.fieldAt, run_und h3, R.of_ok h4, Instr.sureAddr, fieldPlace, run_sz h5, hn, Addr.add_mid, Nat.add_assoc]
  · cases h

theorem indexAddr_ok {t : TypeId} {x i : Operand} (hw : WRel σ N0 w0 ρ s w) (hx : EvOk σ ρ ev e x) (hi : EvOk σ ρ ev e i) (h : opIndexAddr P ev t x i s = .ok (nx, s')) :
    NSem P σ N0 w0 (do pure (.value (← Instr.indexAt t (e x) (e i)))) ρ s w nx s' := by
  unfold opIndexAddr at h
  obtain ⟨a, h1, h⟩ := R.bind_ok' h
  obtain ⟨⟨k, n⟩, h2, h⟩ := R.bind_ok' h
  obtain ⟨d, h3, h⟩ := R.bind_ok' h
  obtain ⟨b, h4, h⟩ := R.bind_ok' h
  have hn := asNatLit_ok h2 (hi _ h1)
  split at h
  · rename_i len el b o _
    obtain ⟨j, h5, h⟩ := R.bind_ok' h
    obtain ⟨sz, h6, h⟩ := R.bind_ok' h
    obtain ⟨rfl, rfl⟩ := okv_ok h
    obtain ⟨L, hL, hp⟩ := hx _ h4
    obtain ⟨rfl, hj⟩ := idxOf_ok h5
    refine NSem.of_v (VSem.pure hw (u := .pointer (some ⟨L.blk, L.off + (o + j * sz), none⟩)) ?_ ⟨L, hL, rfl⟩)
    rw [hp, hn]
    have hlt : 0 ≤ (j : Int) ∧ (j : Int) < (len : Int) := by omega
    simp only [Instr.indexAt, asIntOf, Sem.run_bind, Sem.run_pure, Result.andThen_ok, run_und h3, Instr.sureAddr, if_pos hlt, run_sz h6, Int.toNat_natCast, Addr.add_mid, Nat.add_assoc]
  · rename_i el b o len c _
    obtain ⟨j, h5, h⟩ := R.bind_ok' h
    obtain ⟨sz, h6, h⟩ := R.bind_ok' h
    obtain ⟨rfl, rfl⟩ := okv_ok h
    obtain ⟨rfl, hj⟩ := idxOf_ok h5
    have : ∃ L k, ρ b = some L ∧ e x = .slice (some ⟨L.blk, L.off + o, none⟩) len k := by
      have := hx _ h4
      cases c with
      | known k => obtain ⟨L, h1, h2⟩ := this; exact ⟨L, k, h1, h2⟩
      | grown g => obtain ⟨L, k, h1, h2, _⟩ := this; exact ⟨L, k, h1, h2⟩
    obtain ⟨L, k, hL, hp⟩ := this
    refine NSem.of_v (VSem.pure hw (u := .pointer (some ⟨L.blk, L.off + (o + j * sz), none⟩)) ?_ ⟨L, hL, rfl⟩)
    rw [hp, hn]
    have hlt : 0 ≤ (j : Int) ∧ (j : Int) < (len : Int) := by omega
    simp only [Instr.indexAt, asIntOf, Sem.run_bind, Sem.run_pure, Result.andThen_ok, run_und h3, if_pos hlt, run_sz h6, Int.toNat_natCast, Addr.add_mid, Nat.add_assoc]
  · cases h

theorem load_ok {t : TypeId} {x : Operand} (hw : WRel σ N0 w0 ρ s w) (hx : EvOk σ ρ ev e x) (h : opLoad P ev t x s = .ok (nx, s')) :
    NSem P σ N0 w0 (do pure (.value (← Instr.loadAt t (e x)))) ρ s w nx s' := by
  unfold opLoad at h
  obtain ⟨a, h1, h⟩ := R.bind_ok' h
  obtain ⟨⟨b, o⟩, h2, h⟩ := R.bind_ok' h
  obtain ⟨v, h3, h⟩ := R.bind_ok' h
  obtain ⟨rfl, rfl⟩ := okv_ok h
  obtain ⟨L, hL, hp⟩ := asPtr_ok h2 (hx _ h1)
  obtain ⟨u, hu, hv⟩ := loadA_ok hw h3 hL
  refine NSem.of_v (VSem.pure hw (u := u) ?_ hv)
  rw [hp]
  simp [Instr.loadAt, Instr.sureAddr, hu]

theorem store_ok {t : TypeId} {x v : Operand} (hw : WRel σ N0 w0 ρ s w) (hx : EvOk σ ρ ev e x) (hv : EvOk σ ρ ev e v) (h : opStore P ev t x v s = .ok (nx, s')) :
    NSem P σ N0 w0 (do Instr.storeAt t (e x) (e v); pure .skip) ρ s w nx s' := by
  unfold opStore at h
  obtain ⟨a, h1, h⟩ := R.bind_ok' h
  obtain ⟨⟨b, o⟩, h2, h⟩ := R.bind_ok' h
  obtain ⟨y, h3, h⟩ := R.bind_ok' h
  obtain ⟨s1, h4, h⟩ := R.bind_ok' h
  obtain ⟨rfl, rfl⟩ := okv_ok h
  obtain ⟨L, hL, hp⟩ := asPtr_ok h2 (hx _ h1)
  obtain ⟨w', hu, hpost⟩ := storeA_ok (P := P) hw h4 hL (hv _ h3)
  refine NSem.of_u ⟨w', ρ, ?_, hpost⟩
  rw [hp]
  simp [Instr.storeAt, Instr.sureAddr, hu]

end
end Go.Am


/-
  The abstract machine's operations against the model's: what makes memory.
-/
namespace Go.Am
open Go Go.RowKit
set_option linter.unusedVariables false
set_option linter.unusedSimpArgs false

section
variable {σ : Syms} {N0 : Nat} {w0 : World} {P : Program} {ev : Operand → R AVal} {e : Operand → Value} {ρ : Ren} {s s' : AState} {w : World} {nx : ANext}

theorem newCells_ok {cs : List AVal} {g : Bool} (hw : WRel σ N0 w0 ρ s w) (ha : s.alloc (.cells cs g) = .ok s') (hf : Fresh ρ s.next s'.next) (us : Array Value) (elem : TypeId)
    (hv : VRels σ ρ cs (us.toList.take cs.length)) : ∃ ρ', ρ' s.next = some ⟨w.heap.size, 0, us.size⟩ ∧ Post σ N0 w0 ρ s w ρ' s' (w.alloc (.cells us elem)) := by
  have hlen : cs.length ≤ us.size := by have := hv.length; simp at this; omega
  refine Post.alloc hw ha hf us.size fun ρ' he => ⟨fun j v hj => ?_, fun _ j hj => ?_, fun _ => ⟨rfl, hlen, fun i hi => ⟨?_, ?_⟩⟩⟩
  · obtain ⟨u, hu, hr⟩ := hv.get j v hj
    rw [List.getElem?_take] at hu
    split at hu
    · refine ⟨u, ?_, VRel.mono he _ _ hr⟩
      rw [Nat.zero_add, World.cell?_alloc_new]
      rw [← Array.getElem?_toList]; exact hu
    · cases hu
  · rw [Nat.zero_add]; exact World.frozen?_alloc_new _ _ _ _
  · rw [World.cell?_alloc_new]; simp only [] at hi; simp [hi]
  · exact World.frozen?_alloc_new _ _ _ _

theorem VRels.take_all {cs : List AVal} {us : List Value} (h : VRels σ ρ cs us) : VRels σ ρ cs (us.take cs.length) := by
  rw [← h.length, List.take_length]; exact h

theorem run_newVar (t : TypeId) (v : Value) (w : World) : (newVar t v).run P w = .ok ⟨w.heap.size, 0, none⟩ (w.alloc (.cells v.cells t)) := by
  simp [newVar, newRow]

theorem alloc_op {t : TypeId} (hw : WRel σ N0 w0 ρ s w) (hf : Fresh ρ s.next s'.next) (h : opAlloc P ev t s = .ok (nx, s')) :
    NSem P σ N0 w0 (do pure (.value (← Instr.alloc t true (.tuple #[])))) ρ s w nx s' := by
  unfold opAlloc at h
  obtain ⟨z, h1, h⟩ := R.bind_ok' h
  obtain ⟨s1, h2, h⟩ := R.bind_ok' h
  obtain ⟨rfl, rfl⟩ := okv_ok h
  obtain ⟨v, hv1, hv2⟩ := zeroOf_ok (σ := σ) h1
  obtain ⟨ρ', h3, h4⟩ := newCells_ok hw h2 hf v.cells t (VRels.take_all (hv2 ρ).cells')
  refine NSem.of_v ⟨_, _, ρ', ?_, ⟨_, h3, rfl⟩, h4⟩
  simp [Instr.alloc, hv1, run_newVar]

theorem box_op {t : TypeId} {x : Operand} (hw : WRel σ N0 w0 ρ s w) (hf : Fresh ρ s.next s'.next) (hx : EvOk σ ρ ev e x) (h : opBox P ev x s = .ok (nx, s')) :
    NSem P σ N0 w0 (do pure (.value (← Instr.box t (e x)))) ρ s w nx s' := by
  unfold opBox at h
  obtain ⟨v, h1, h⟩ := R.bind_ok' h
  obtain ⟨_, _, h⟩ := R.bind_ok' h
  obtain ⟨s1, h2, h⟩ := R.bind_ok' h
  obtain ⟨rfl, rfl⟩ := okv_ok h
  obtain ⟨ρ', h3, h4⟩ := newCells_ok hw h2 hf (e x).cells t (VRels.take_all (hx v h1).cells')
  refine NSem.of_v ⟨_, _, ρ', ?_, ⟨_, h3, rfl⟩, h4⟩
  simp [Instr.box, run_newVar]

/-! ### Composite values -/
def putAll (off : Nat) : List Value → Nat → Array Value → Array Value
  | [], _, cs => cs
  | c :: r, j, cs => putAll off r (j + 1) (cs.setIfInBounds (off + j) c)

theorem putAll_fold (off : Nat) : ∀ (l : List Value) (k : Nat) (cs : Array Value), (l.zipIdx k).foldl (fun cs (x : Value × Nat) => cs.setIfInBounds (off + x.2) x.1) cs = putAll off l k cs
  | [], _, _ => rfl
  | c :: r, k, cs => by simp only [List.zipIdx_cons, List.foldl_cons, putAll]; exact putAll_fold off r (k + 1) _

theorem putAll_size (off : Nat) : ∀ (l : List Value) (k : Nat) (cs : Array Value), (putAll off l k cs).size = cs.size
  | [], _, _ => rfl
  | c :: r, k, cs => by simp [putAll, putAll_size off r]

theorem putAll_get (off : Nat) : ∀ (l : List Value) (k : Nat) (cs : Array Value) (j : Nat), off + k + l.length ≤ cs.size →
    (putAll off l k cs)[j]? = if off + k ≤ j ∧ j < off + k + l.length then l[j - (off + k)]? else cs[j]?
  | [], k, cs, j, _ => by rw [if_neg (by simp)]; rfl
  | c :: r, k, cs, j, h => by
    simp only [List.length_cons] at h
    rw [putAll, putAll_get off r (k + 1) _ j (by simp; omega)]
    by_cases h1 : j = off + k
    · subst h1
      rw [if_neg (by omega), if_pos (by simp only [List.length_cons]; omega)]
      have : off + k < cs.size := by omega
      simp [this]
    · by_cases h2 : off + (k + 1) ≤ j ∧ j < off + (k + 1) + r.length
      · rw [if_pos h2, if_pos (by simp only [List.length_cons]; omega)]
        rw [show j - (off + k) = (j - (off + (k + 1))) + 1 by omega, List.getElem?_cons_succ]
      · rw [if_neg h2, if_neg (by simp only [List.length_cons]; omega)]
        rw [Array.getElem?_setIfInBounds_ne (by omega)]

theorem afill_ok {place : Nat → Option (Nat × Nat)} : ∀ {ps : List (Nat × AVal)} {qs : List (Nat × Value)} {cs r : List AVal} {us : Array Value}, VRels σ ρ cs us.toList →
    ps.map (·.1) = qs.map (·.1) → (∀ (j : Nat) (p : Nat × AVal) (q : Nat × Value), ps[j]? = some p → qs[j]? = some q → VRel σ ρ p.2 q.2) → afill place cs ps = some r → ∃ us', Instr.fill place us qs = some us' ∧ VRels σ ρ r us'.toList
  | [], [], cs, r, us, hv, _, _, h => by
    simp only [afill, Option.some.injEq] at h
    subst h
    exact ⟨us, rfl, hv⟩
  | [], q :: qs, cs, r, us, hv, hm, _, h => by simp at hm
  | p :: ps, [], cs, r, us, hv, hm, _, h => by simp at hm
  | (i, v) :: ps, (i', u) :: qs, cs, r, us, hv, hm, hr, h => by
    simp only [List.map_cons, List.cons.injEq] at hm
    obtain ⟨rfl, hm⟩ := hm
    unfold afill at h
    cases hp : place i with
    | none => rw [hp] at h; cases h
    | some os =>
      obtain ⟨off, size⟩ := os
      rw [hp] at h
      simp only [] at h
      have hvu : VRel σ ρ v u := hr 0 (i, v) (i, u) rfl rfl
      have hc := hvu.cells'
      have hcl : u.cells.size = v.cells.length := by have := hc.length; simpa using this
      have hus : us.size = cs.length := by have := hv.length; simpa using this
      cases hq : (Nat.beq v.cells.length size && Nat.ble (off + v.cells.length) cs.length) with
      | false => rw [hq] at h; cases h
      | true =>
        rw [hq, cond_true] at h
        simp only [Bool.and_eq_true, Nat.ble_eq] at hq
        have h1 := Nat.eq_of_beq_eq_true hq.1
        have hsp : VRels σ ρ (splice cs off v.cells) (putAll off u.cells.toList 0 us).toList := by
          refine VRels.of_get ?_ fun j x hj => ?_
          · rw [splice_length hq.2]; simp [putAll_size, hus]
          · rw [splice_get hq.2] at hj
            rw [Array.getElem?_toList, putAll_get off _ 0 us j (by simp; omega)]
            simp only [Nat.add_zero, Array.length_toList, hcl]
            split at hj
            · rename_i hin; rw [if_pos hin]; exact hc.get _ x hj
            · rename_i hout; rw [if_neg hout, ← Array.getElem?_toList]; exact hv.get j x hj
        obtain ⟨us', h2, h3⟩ := afill_ok hsp hm (fun j p q hp hq => hr (j + 1) p q (by simpa using hp) (by simpa using hq)) h
        refine ⟨us', ?_, h3⟩
        unfold Instr.fill
        rw [hp]
        have hcond : (decide (u.cells.size ≠ size) || decide (off + u.cells.size > us.size)) = false := by
          simp; omega
        simp only [hcond, Bool.false_eq_true, if_false]
        rw [← h2]
        congr 1
        rw [← Array.foldl_toList, Array.toList_zipIdx]
        exact putAll_fold off u.cells.toList 0 us

theorem evParts_ok : ∀ {l : List (Nat × Operand)} {ps : List (Nat × AVal)}, (∀ x ∈ l.map (·.2), EvOk σ ρ ev e x) → evParts ev l = .ok ps →
    ps.map (·.1) = (l.map fun (p : Nat × Operand) => (p.1, e p.2)).map (·.1) ∧ ∀ (j : Nat) (p : Nat × AVal) (q : Nat × Value), ps[j]? = some p → (l.map fun (p : Nat × Operand) => (p.1, e p.2))[j]? = some q → VRel σ ρ p.2 q.2
  | [], ps, _, h => by cases h; exact ⟨rfl, fun j p q hp => by simp at hp⟩
  | (i, x) :: l, ps, hx, h => by
    unfold evParts at h
    obtain ⟨v, h1, h⟩ := R.bind_ok' h
    obtain ⟨r, h2, h⟩ := R.bind_ok' h
    cases h
    obtain ⟨h3, h4⟩ := evParts_ok (fun y hy => hx y (by simp only [List.map_cons, List.mem_cons]; exact .inr hy)) h2
    refine ⟨by simp only [List.map_cons, h3], fun j p q hp hq => ?_⟩
    cases j with
    | zero =>
      simp at hp hq
      subst hp; subst hq
      exact hx x (by simp) v h1
    | succ j => exact h4 j p q (by simpa using hp) (by simpa using hq)

theorem fieldPlaces_ok : ∀ {fs : List Field} {pl : List (Nat × Nat)}, fieldPlaces P fs = .ok pl → fs.mapM (fun f => (P.info? f.type).map fun i => (f.offset, i.size)) = some pl
  | [], pl, h => by cases h; rfl
  | f :: fs, pl, h => by
    unfold fieldPlaces at h
    obtain ⟨n, h1, h⟩ := R.bind_ok' h
    obtain ⟨l, h2, h⟩ := R.bind_ok' h
    cases h
    obtain ⟨i, h3, h4⟩ := szOf_ok h1
    simp [List.mapM_cons, h3, fieldPlaces_ok h2, h4]

theorem build_op {t : TypeId} {parts : Array (Nat × Operand)} (hw : WRel σ N0 w0 ρ s w) (hx : ∀ x ∈ parts.toList.map (·.2), EvOk σ ρ ev e x) (h : opBuild P ev t parts s = .ok (nx, s')) :
    NSem P σ N0 w0 (do pure (.value (← Instr.build t (parts.map fun (i, x) => (i, e x))))) ρ s w nx s' := by
  unfold opBuild at h
  obtain ⟨z, h1, h⟩ := R.bind_ok' h
  obtain ⟨ps, h2, h⟩ := R.bind_ok' h
  obtain ⟨d, h3, h⟩ := R.bind_ok' h
  obtain ⟨it, zv, hz0, hz1, hz2⟩ := zeroOf_raw (σ := σ) h1
  obtain ⟨hm, hr⟩ := evParts_ok hx h2
  have hl : (parts.map fun (p : Nat × Operand) => (p.1, e p.2)).toList = parts.toList.map fun (p : Nat × Operand) => (p.1, e p.2) := by simp
  split at h
  · rename_i fs
    obtain ⟨pl, h4, h⟩ := R.bind_ok' h
    obtain ⟨r, h5, h⟩ := R.bind_ok' h
    obtain ⟨rfl, rfl⟩ := okv_ok h
    obtain ⟨us, h6, h7⟩ := afill_ok (hz2 ρ).cells' hm hr (R.of_ok h5)
    refine NSem.of_v (VSem.pure hw (u := .agg us) (run_build w t _ us ?_) ⟨us, rfl, h7⟩)
    unfold Program.built
    rw [hz0, und_ok h3]
    simp only [hz1, fieldPlaces_ok h4]
    rw [hl, ← h6]
    congr 1
    funext i
    simp
  · rename_i len el
    obtain ⟨n, h4, h⟩ := R.bind_ok' h
    obtain ⟨r, h5, h⟩ := R.bind_ok' h
    obtain ⟨rfl, rfl⟩ := okv_ok h
    obtain ⟨us, h6, h7⟩ := afill_ok (hz2 ρ).cells' hm hr (R.of_ok h5)
    refine NSem.of_v (VSem.pure hw (u := .agg us) (run_build w t _ us ?_) ⟨us, rfl, h7⟩)
    obtain ⟨ie, h8, h9⟩ := szOf_ok h4
    unfold Program.built
    rw [hz0, und_ok h3]
    simp only [hz1, h8, h9]
    rw [hl, ← h6]
  · cases h

theorem repl_length (n : Nat) (z : List AVal) : (repl n z).length = n * z.length := by
  induction n with
  | zero => simp [repl]
  | succ n ih => simp [repl, ih]; rw [Nat.succ_mul]; omega

theorem repl_get (z : List AVal) (hz : 0 < z.length) : ∀ (n j : Nat), j < n * z.length → (repl n z)[j]? = z[j % z.length]?
  | 0, j, h => by simp at h
  | n + 1, j, h => by
    unfold repl
    by_cases hj : j < z.length
    · rw [List.getElem?_append_left hj, Nat.mod_eq_of_lt hj]
    · rw [List.getElem?_append_right (by omega), repl_get z hz n (j - z.length) (by rw [Nat.succ_mul] at h; omega), Nat.mod_eq_sub_mod (a := j) (by omega)]

/-- A row of zeros. -/
theorem repl_ok {z : List AVal} {zs : Array Value} {n k : Nat} (hz : VRels σ ρ z zs.toList) (hk : k = n * z.length) :
    VRels σ ρ (repl n z) ((Array.range k).map (zs[· % zs.size]!)).toList := by
  have hzl : zs.size = z.length := by have := hz.length; simpa using this
  refine VRels.of_get (by simp [repl_length, hk]) fun j v hj => ?_
  have hjl : j < (repl n z).length := (List.getElem?_eq_some_iff.1 hj).1
  rw [repl_length] at hjl
  have hz0 : 0 < z.length := by
    rcases Nat.eq_zero_or_pos z.length with h0 | h0
    · rw [h0] at hjl; simp at hjl
    · exact h0
  rw [repl_get z hz0 n j hjl] at hj
  obtain ⟨u, hu, hv⟩ := hz.get _ v hj
  refine ⟨u, ?_, hv⟩
  have hlt : j % zs.size < zs.size := Nat.mod_lt _ (by omega)
  rw [← hzl, Array.getElem?_toList] at hu
  have : zs[j % zs.size]! = u := by
    rw [getElem!_pos zs _ hlt]
    have := Array.getElem?_eq_getElem hlt
    rw [this] at hu; exact Option.some.inj hu
  simp [hk ▸ hjl, this]

theorem buildSlice_op {t : TypeId} {len : Nat} {parts : Array (Nat × Operand)} (hw : WRel σ N0 w0 ρ s w) (hf : Fresh ρ s.next s'.next) (hx : ∀ x ∈ parts.toList.map (·.2), EvOk σ ρ ev e x) (h : opBuildSlice P ev t len parts s = .ok (nx, s')) :
    NSem P σ N0 w0 (do pure (.value (← Instr.buildSlice t len (parts.map fun (i, x) => (i, e x))))) ρ s w nx s' := by
  unfold opBuildSlice at h
  obtain ⟨d, h1, h⟩ := R.bind_ok' h
  split at h
  · rename_i el
    obtain ⟨n, h2, h⟩ := R.bind_ok' h
    obtain ⟨_, h3, h⟩ := R.bind_ok' h
    obtain ⟨z, h4, h⟩ := R.bind_ok' h
    obtain ⟨ps, h5, h⟩ := R.bind_ok' h
    obtain ⟨_, h6, h⟩ := R.bind_ok' h
    obtain ⟨cs, h7, h⟩ := R.bind_ok' h
    obtain ⟨_, h8, h⟩ := R.bind_ok' h
    obtain ⟨s1, h9, h⟩ := R.bind_ok' h
    obtain ⟨rfl, rfl⟩ := okv_ok h
    have h3 := Nat.le_of_ble_eq_true (guardR_ok h3)
    have h6 := Nat.eq_of_beq_eq_true (guardR_ok h6)
    obtain ⟨hm, hr⟩ := evParts_ok hx h5
    have hl : (parts.map fun (p : Nat × Operand) => (p.1, e p.2)).toList = parts.toList.map fun (p : Nat × Operand) => (p.1, e p.2) := by simp
    obtain ⟨zv, hz1, hz2⟩ := zeroOf_ok (σ := σ) h4
    have hrow : VRels σ ρ (repl len z.cells) ((Array.range (len * n)).map ((if len * n = 0 then #[] else zv.cells)[· % (if len * n = 0 then #[] else zv.cells).size]!)).toList := by
      by_cases h0 : len * n = 0
      · have : repl len z.cells = [] := List.length_eq_zero_iff.1 (by rw [repl_length, h6]; exact h0)
        rw [this, h0]; simp [VRels]
      · simp only [h0, if_false]
        exact repl_ok (hz2 ρ).cells' (by rw [h6])
    obtain ⟨us, h10, h11⟩ := afill_ok hrow hm hr (R.of_ok h7)
    obtain ⟨ρ', h12, h13⟩ := newCells_ok hw h9 hf us el (VRels.take_all h11)
    refine NSem.of_v ⟨_, _, ρ', ?_, ⟨_, h12, rfl⟩, h13⟩
    have hsz : ¬ (2 : Nat) ^ 24 < len * n := by omega
    simp only [Instr.buildSlice, Sem.run_bind, run_und h1, Result.andThen_ok, run_sz h2]
    rw [if_neg (by simpa using hsz)]
    by_cases h0 : len * n = 0
    · rw [if_pos h0] at h10 ⊢
      simp only [Sem.run_bind, Sem.run_pure, Result.andThen_ok]
      rw [hl, h10]
      simp [newRow]
    · rw [if_neg h0] at h10 ⊢
      simp only [Sem.run_bind, Sem.run_pure, Result.andThen_ok, hz1]
      rw [hl, h10]
      simp [newRow]
  · cases h

theorem makeMap_op {t : TypeId} (hw : WRel σ N0 w0 ρ s w) (hf : Fresh ρ s.next s'.next) (h : opMakeMap P ev s = .ok (nx, s')) :
    NSem P σ N0 w0 (do pure (.value (← Instr.makeMap t none))) ρ s w nx s' := by
  unfold opMakeMap at h
  obtain ⟨s1, h1, h⟩ := R.bind_ok' h
  obtain ⟨rfl, rfl⟩ := okv_ok h
  obtain ⟨ρ', h2, h3⟩ := Post.alloc (O := .map #[] 0) hw h1 hf 0 fun ρ' he => ⟨#[], by show (w.heap.push (.map #[] 0))[w.heap.size]? = _; simp, rfl⟩
  exact NSem.of_v ⟨_, _, ρ', by simp [Instr.makeMap], ⟨_, h2, rfl⟩, h3⟩

theorem makeSlice_op {t : TypeId} {l c : Operand} (hw : WRel σ N0 w0 ρ s w) (hf : Fresh ρ s.next s'.next) (hl : EvOk σ ρ ev e l) (hc : EvOk σ ρ ev e c) (h : opMakeSlice P ev t l c s = .ok (nx, s')) :
    NSem P σ N0 w0 (do pure (.value (← Instr.makeSlice t (e l) (e c)))) ρ s w nx s' := by
  unfold opMakeSlice at h
  obtain ⟨d, h1, h⟩ := R.bind_ok' h
  split at h
  · rename_i el
    obtain ⟨a, h2, h⟩ := R.bind_ok' h
    obtain ⟨⟨k, li⟩, h3, h⟩ := R.bind_ok' h
    obtain ⟨b, h4, h⟩ := R.bind_ok' h
    obtain ⟨⟨k', ci⟩, h5, h⟩ := R.bind_ok' h
    obtain ⟨z, h6, h⟩ := R.bind_ok' h
    obtain ⟨n, h7, h⟩ := R.bind_ok' h
    obtain ⟨by_, h8, h⟩ := R.bind_ok' h
    obtain ⟨_, h9, h⟩ := R.bind_ok' h
    have h9 := guardR_ok h9
    simp only [Bool.and_eq_true, Nat.ble_eq] at h9
    obtain ⟨⟨g1, g2⟩, g3⟩ := h9
    have g2 := Nat.eq_of_beq_eq_true g2
    rcases li with len | len <;> rcases ci with cap | cap <;> simp only [] at h
    · obtain ⟨_, h10, h⟩ := R.bind_ok' h
      obtain ⟨s1, h11, h⟩ := R.bind_ok' h
      obtain ⟨rfl, rfl⟩ := okv_ok h
      have h10 := guardR_ok h10
      simp only [Bool.and_eq_true, Nat.ble_eq] at h10
      obtain ⟨zv, hz1, hz2⟩ := zeroOf_ok (σ := σ) h6
      obtain ⟨ib, hi1, hi2⟩ := byOf_ok h8
      have hrow := repl_ok (n := cap) (k := cap * n) (hz2 ρ).cells' (by rw [g2])
      obtain ⟨ρ', h12, h13⟩ := newCells_ok hw h11 hf _ el (VRels.take_all hrow)
      refine NSem.of_v ⟨_, _, ρ', ?_, ⟨_, h12, rfl⟩, h13⟩
      rw [asNatLit_ok h3 (hl _ h2), asNatLit_ok h5 (hc _ h4)]
      have wl : IntKind.i64.wrap (Int.ofNat len) = len := IntWalk.i64_in _ (by simp only [Int.ofNat_eq_natCast]; omega)
      have wc : IntKind.i64.wrap (Int.ofNat cap) = cap := IntWalk.i64_in _ (by simp only [Int.ofNat_eq_natCast]; omega)
      have hprod : (by_ : Int) * cap ≤ 1000000000000 := by
        rw [← Int.natCast_mul]
        have : by_ * cap ≤ 1000000000000 := Nat.mul_le_mul g1 h10.2
        omega
      have c1 : (decide ((cap : Int) < 0) || decide (((ib.bytes : Nat) : Int) * (cap : Int) > 2 ^ 48) || decide ((len : Int) < 0) || decide ((len : Int) > (cap : Int))) = false := by
        rw [hi2]
        simp only [Bool.or_eq_false_iff, decide_eq_false_iff_not]
        refine ⟨⟨⟨?_, ?_⟩, ?_⟩, ?_⟩ <;> omega
      simp only [Instr.makeSlice, Sem.run_bind, run_und h1, Result.andThen_ok, asInt, asIntOf, Sem.run_pure, run_info hi1, wl, wc]
      rw [if_neg (by simpa using c1)]
      simp only [Sem.run_bind, run_askRoom, Result.andThen_ok, run_sz h7, Int.toNat_natCast]
      by_cases h0 : cap * n = 0
      · rw [if_pos h0]
        have e0 : ∀ f : Nat → Value, (Array.range (cap * n)).map f = #[] := fun f => Array.eq_empty_of_size_eq_zero (by rw [Array.size_map, Array.size_range, h0])
        simp [newRow, e0]
      · rw [if_neg h0]
        simp [newRow, hz1]
    all_goals cases h
  · cases h

end
end Go.Am
