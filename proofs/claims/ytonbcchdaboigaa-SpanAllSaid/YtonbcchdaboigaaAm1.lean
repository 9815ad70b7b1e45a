/-
  The abstract machine: a deterministic evaluator of the model's code over a heap of numbered blocks; definitions only.
-/
import Derived.Orders
import Derived.Below
import Derived.ScopeJumps
namespace Go.Am
open Go
set_option linter.unusedVariables false
noncomputable section

/-! ### Finite maps keyed by numbers -/
inductive Tr (α : Type) where
  | leaf
  | node (l : Tr α) (v : Option α) (r : Tr α)
deriving Inhabited

def Tr.get {α : Type} (t : Tr α) : Nat → Option α :=
  Tr.rec (motive := fun _ => Nat → Option α) (fun _ => none)
    (fun _ v _ ihl ihr k => Nat.casesOn (motive := fun _ => Option α) k v fun k => cond (Nat.beq (Nat.land k (nat_lit 1)) (nat_lit 0)) (ihl (Nat.shiftRight k (nat_lit 1))) (ihr (Nat.shiftRight k (nat_lit 1)))) t

/-- `c` of the map in which `k` has `a`. -/
def Tr.setK {α β : Type} (a : Option α) (f : Nat) : Tr α → Nat → (Tr α → β) → β :=
  Nat.rec (motive := fun _ => Tr α → Nat → (Tr α → β) → β) (fun t _ c => c t)
    (fun _ ih t k c => Tr.casesOn (motive := fun _ => β) t
      (Nat.casesOn (motive := fun _ => β) k (c (.node .leaf a .leaf)) fun k => cond (Nat.beq (Nat.land k (nat_lit 1)) (nat_lit 0)) (ih .leaf (Nat.shiftRight k (nat_lit 1)) fun t => c (.node t none .leaf))
        (ih .leaf (Nat.shiftRight k (nat_lit 1)) fun t => c (.node .leaf none t)))
      (fun l v r => Nat.casesOn (motive := fun _ => β) k (c (.node l a r)) fun k => cond (Nat.beq (Nat.land k (nat_lit 1)) (nat_lit 0)) (ih l (Nat.shiftRight k (nat_lit 1)) fun t => c (.node t v r))
        (ih r (Nat.shiftRight k (nat_lit 1)) fun t => c (.node l v t)))) f

/-! ### Values, blocks, states -/
inductive ACap where
  | known (n : Nat)
  | grown (esz : Nat)
deriving Inhabited

inductive AVal where
  | lit (v : Value)
  | sym (i : Nat)
  | ptr (b off : Nat)
  | slice (b off len : Nat) (cap : ACap)
  | map (b : Nat)
  | clo (f : FuncId) (caps : List AVal)
  | agg (cs : List AVal)
  | tup (vs : List AVal)
deriving Inhabited

structure AEntry where
  key : Value
  val : AVal
  born : Nat
deriving Inhabited

inductive AObj where
  | cells (cs : List AVal) (grown : Bool)
  | map (es : List AEntry) (clock : Nat)
  | iter (m : Option Nat) (since : Nat) (seen : List Nat) (stepped : Nat)
deriving Inhabited

structure AState where
  heap : Tr AObj
  next : Nat
  low : Nat
  ro : Nat
deriving Inhabited

structure AAct where
  tmps : Tr AVal
  n : Nat
deriving Inhabited

inductive R (α : Type) where
  | ok (a : α)
  | fail (w : String)
deriving Inhabited

def R.bind {α β : Type} (x : R α) (f : α → R β) : R β :=
  match x with
  | .ok a => f a
  | .fail w => .fail w

instance : Monad R where
  pure := R.ok
  bind := R.bind

def R.of {α : Type} (w : String) : Option α → R α
  | some a => .ok a
  | none => .fail w

def guardR (b : Bool) (w : String) : R Unit := match b with | true => .ok () | false => .fail w

inductive ANext where
  | val (v : AVal)
  | enter (f : FuncId) (args : List AVal)
  | choose (n : Nat) (k : Nat → R (AVal × AState))
deriving Inhabited

def aundef : AVal := .tup []

def AVal.cells : AVal → List AVal
  | .agg cs => cs
  | v => [v]

/-- A value of one cell. -/
def vOne : Value → Bool
  | .agg _ | .tuple _ => false
  | _ => true

/-- A closed value's reading. -/
def ofVal : Value → Option AVal
  | .agg cs => bif cs.toList.all vOne then some (.agg (cs.toList.map .lit)) else none
  | .tuple vs => match vs.toList with | [] => some (.tup []) | _ => none
  | v => some (.lit v)

def litsOf : List AVal → Option (List Value)
  | [] => some []
  | .lit v :: r => match litsOf r with | some l => some (v :: l) | none => none
  | _ :: _ => none

/-- The value that an abstract value is, where nothing of it lies in memory. -/
def toVal : AVal → Option Value
  | .lit v => some v
  | .agg cs => match litsOf cs with | some l => some (.agg l.toArray) | none => none
  | _ => none

/-- The answer of a run that asks nothing of memory. -/
def pureRun (P : Program) {α : Type} : Sem α → Option α
  | .pure a => some a
  | .program k => pureRun P (k P)
  | .mark _ k => pureRun P k
  | _ => none

/-! ### What is written is worked out first -/
def forceN {β : Type} (n : Nat) (c : Nat → β) : β :=
  match n with
  | .zero => c (nat_lit 0)
  | .succ m => c (Nat.succ m)

def forceI {β : Type} (n : Int) (c : Int → β) : β :=
  match n with
  | .ofNat m => forceN m fun m => c (.ofNat m)
  | .negSucc m => forceN m fun m => c (.negSucc m)

def forceB {β : Type} (b : Bool) (c : Bool → β) : β :=
  match b with
  | true => c true
  | false => c false

def forceLit {β : Type} (v : Value) (c : Value → β) : β :=
  match v with
  | .int k n => forceI n fun n => c (.int k n)
  | .bool b => forceB b fun b => c (.bool b)
  | .float k n => forceN n fun n => c (.float k n)
  | .complex k n m => forceN n fun n => forceN m fun m => c (.complex k n m)
  | v => c v

def forceCell {β : Type} (v : AVal) (c : AVal → β) : β :=
  match v with
  | .lit v => forceLit v fun v => c (.lit v)
  | .ptr b o => forceN b fun b => forceN o fun o => c (.ptr b o)
  | .slice b o n (.known k) => forceN b fun b => forceN o fun o => forceN n fun n => forceN k fun k => c (.slice b o n (.known k))
  | .slice b o n (.grown k) => forceN b fun b => forceN o fun o => forceN n fun n => forceN k fun k => c (.slice b o n (.grown k))
  | .map b => forceN b fun b => c (.map b)
  | v => c v

def forceCells {β : Type} : List AVal → (List AVal → β) → β
  | [], c => c []
  | v :: r, c => forceCell v fun v => forceCells r fun r => c (v :: r)

def forceW {β : Type} (v : AVal) (c : AVal → β) : β :=
  match v with
  | .agg cs => forceCells cs fun cs => c (.agg cs)
  | .clo f cs => forceCells cs fun cs => c (.clo f cs)
  | v => forceCell v c

def forceWs {β : Type} : List AVal → (List AVal → β) → β
  | [], c => c []
  | v :: r, c => forceW v fun v => forceWs r fun r => c (v :: r)

def forceV {β : Type} (v : AVal) (c : AVal → β) : β :=
  match v with
  | .tup vs => forceWs vs fun vs => c (.tup vs)
  | v => forceW v c

def forceE {β : Type} (e : AEntry) (c : AEntry → β) : β :=
  match e with
  | ⟨k, v, n⟩ => forceLit k fun k => forceV v fun v => forceN n fun n => c ⟨k, v, n⟩

def forceEs {β : Type} : List AEntry → (List AEntry → β) → β
  | [], c => c []
  | e :: r, c => forceE e fun e => forceEs r fun r => c (e :: r)

def forceNs {β : Type} : List Nat → (List Nat → β) → β
  | [], c => c []
  | e :: r, c => forceN e fun e => forceNs r fun r => c (e :: r)

def forceO {β : Type} (o : AObj) (c : AObj → β) : β :=
  match o with
  | .cells cs g => forceCells cs fun cs => forceB g fun g => c (.cells cs g)
  | .map es n => forceEs es fun es => forceN n fun n => c (.map es n)
  | .iter m s l k => forceN s fun s => forceNs l fun l => forceN k fun k => c (.iter m s l k)

/-! Blocks whose parts are worked out already: their spines alone. -/
def spine {α β : Type} : List α → (List α → β) → β
  | [], c => c []
  | x :: r, c => spine r fun r => c (x :: r)

def spineEs {β : Type} : List AEntry → (List AEntry → β) → β
  | [], c => c []
  | ⟨k, v, n⟩ :: r, c => forceN n fun n => spineEs r fun r => c (⟨k, v, n⟩ :: r)

def slimO {β : Type} (o : AObj) (c : AObj → β) : β :=
  match o with
  | .cells cs g => spine cs fun cs => c (.cells cs g)
  | .map es n => spineEs es fun es => forceN n fun n => c (.map es n)
  | o => forceO o c

/-! ### Memory -/
def AState.get (s : AState) (b : Nat) : R AObj := R.of "no such block" (s.heap.get b)

/-- Every number of a block is below this. -/
def lim : Nat := 549755813888

def AState.alloc (s : AState) (o : AObj) : R AState :=
  match s with
  | ⟨h, n, l, ro⟩ => cond (Nat.ble n lim) (forceO o fun o => Tr.setK (some o) 40 h n fun h => forceN (Nat.succ n) fun n => .ok ⟨h, n, l, ro⟩) (.fail "too many blocks")

def AState.allocS (s : AState) (o : AObj) : R AState :=
  match s with
  | ⟨h, n, l, ro⟩ => cond (Nat.ble n lim) (slimO o fun o => Tr.setK (some o) 40 h n fun h => forceN (Nat.succ n) fun n => .ok ⟨h, n, l, ro⟩) (.fail "too many blocks")

def AState.put (s : AState) (b : Nat) (o : Option AObj) : R AState :=
  match s with
  | ⟨h, n, l, ro⟩ => cond (Nat.ble b lim) (Tr.setK o 40 h b fun h => forceN (Nat.min l b) fun l => .ok ⟨h, n, l, ro⟩) (.fail "no such block")

def AState.write (s : AState) (b : Nat) (o : AObj) : R AState :=
  cond (Nat.ble s.ro b) (slimO o fun o => s.put b (some o)) (.fail "a write to what was handed in")

def getCells (s : AState) (b : Nat) : R (List AVal) := do
  match ← s.get b with
  | .cells cs _ => .ok cs
  | _ => .fail "cells expected"

def nth : List AVal → Nat → R AVal
  | [], _ => .fail "no such cell"
  | v :: r, i => match i with
    | .zero => .ok v
    | .succ i => nth r i

def takeN (l : List AVal) (o n : Nat) : R (List AVal) :=
  let r := (l.drop o).take n
  bif Nat.beq r.length n then .ok r else .fail "not so many cells"

/-- `vs` over the cells from `o` on. -/
def splice (l : List AVal) (o : Nat) (vs : List AVal) : List AVal := l.take o ++ vs ++ l.drop (o + vs.length)

def isAggD : TypeDesc → Bool
  | .struct _ | .array _ _ => true
  | _ => false

def und (P : Program) (t : TypeId) : R TypeDesc := R.of "no such type" (P.underlying t)
def szOf (P : Program) (t : TypeId) : R Nat := R.of "no such type" ((P.info? t).map (·.size))
def byOf (P : Program) (t : TypeId) : R Nat := R.of "no such type" ((P.info? t).map (·.bytes))
def zeroOf (P : Program) (t : TypeId) : R AVal := R.of "no zero" (((P.info? t).bind (·.zero)).bind ofVal)

def loadA (P : Program) (s : AState) (t : TypeId) (b o : Nat) : R AVal := do
  let cs ← getCells s b
  let d ← und P t
  bif isAggD d then do
    let n ← szOf P t
    let l ← takeN cs o n
    .ok (.agg l)
  else nth cs o

def AVal.oneCell : AVal → Bool
  | .agg _ | .tup _ => false
  | _ => true

def storeCellsA (s : AState) (b o : Nat) (vs : List AVal) : R AState := do
  match ← s.get b with
  | .cells cs g =>
    guardR (Nat.ble (o + vs.length) cs.length && vs.all AVal.oneCell) "store: no such cells"
    s.write b (.cells (splice cs o vs) g)
  | _ => .fail "cells expected"

def storeA (P : Program) (s : AState) (t : TypeId) (b o : Nat) (v : AVal) : R AState := do
  let n ← szOf P t
  guardR (Nat.beq v.cells.length n) "store: size"
  storeCellsA s b o v.cells

/-! ### Operations -/
def aev (a : AAct) : Operand → R AVal
  | .tmp t => match a.tmps.get t with
    | some v => .ok v
    | none => .fail "an unset temporary"
  | .const v => R.of "a constant" (ofVal v)
  | .global _ => .fail "a global"
  | .func f => .ok (.clo f [])

def asNatLit : AVal → R (IntKind × Int)
  | .lit (.int k n) => .ok (k, n)
  | _ => .fail "int expected"

def asBoolLit : AVal → R Bool
  | .lit (.bool b) => .ok b
  | _ => .fail "bool expected"

def asPtr : AVal → R (Nat × Nat)
  | .ptr b o => .ok (b, o)
  | _ => .fail "pointer expected"

def litV (v : Option Value) : R AVal := do
  let v ← R.of "not pure" v
  R.of "not a closed value" (ofVal v)

/-- `fill` over abstract cells. -/
def afill (place : Nat → Option (Nat × Nat)) (cells : List AVal) : List (Nat × AVal) → Option (List AVal)
  | [] => some cells
  | (i, v) :: rest =>
    match place i with
    | none => none
    | some (off, size) =>
      bif Nat.beq v.cells.length size && Nat.ble (off + v.cells.length) cells.length then afill place (splice cells off v.cells) rest else none

def evParts (ev : Operand → R AVal) : List (Nat × Operand) → R (List (Nat × AVal))
  | [] => .ok []
  | (i, x) :: r => do
    let v ← ev x
    let l ← evParts ev r
    .ok ((i, v) :: l)

def evs (ev : Operand → R AVal) : List Operand → R (List AVal)
  | [] => .ok []
  | x :: r => do
    let v ← ev x
    let l ← evs ev r
    .ok (v :: l)

def fieldPlaces (P : Program) : List Field → R (List (Nat × Nat))
  | [] => .ok []
  | f :: r => do
    let n ← szOf P f.type
    let l ← fieldPlaces P r
    .ok ((f.offset, n) :: l)

def partA (P : Program) (t : TypeId) (cs : List AVal) (off : Nat) : R AVal := do
  let d ← und P t
  bif isAggD d then do
    let n ← szOf P t
    let l ← takeN cs off n
    .ok (.agg l)
  else nth cs off

def repl (n : Nat) (z : List AVal) : List AVal := match n with | 0 => [] | n + 1 => z ++ repl n z

/-- Key kinds for which a look-up is told at once. -/
def keyIs (k : Value) (k' : Value) : R Bool :=
  match k, k' with
  | .int j a, .int j' b => bif decide (j = j') then .ok (a == b) else .fail "keys of two kinds"
  | _, _ => .fail "a key of another kind"

def findA (k : Value) : List AEntry → Nat → R (Option (Nat × AVal))
  | [], _ => .ok none
  | e :: es, i => do
    let b ← keyIs k e.key
    bif b then .ok (some (i, e.val)) else findA k es (i + 1)

def setNth (l : List AEntry) (i : Nat) (v : AVal) (k : Value) : List AEntry := l.modify i fun e => { e with key := k, val := v }

def mapOf (s : AState) (m : AVal) : R (Nat × List AEntry × Nat) := do
  match m with
  | .map b => match ← s.get b with
    | .map es c => .ok (b, es, c)
    | _ => .fail "map expected"
  | _ => .fail "map expected"

def intKey (P : Program) (t : TypeId) : R TypeId := do
  match ← und P t with
  | .map k e => match ← und P k with
    | .int _ => .ok e
    | _ => .fail "a map of other keys"
  | _ => .fail "map type expected"

def asKey : AVal → R Value
  | .lit (.int k n) => .ok (.int k n)
  | _ => .fail "an integer key expected"

def mapPut (s : AState) (b : Nat) (es : List AEntry) (c : Nat) (k : Value) (v : AVal) : R AState := do
  match ← findA k es 0 with
  | some (i, _) => s.write b (.map (setNth es i v k) c)
  | none => s.write b (.map (es ++ [{ key := k, val := v, born := c }]) (c + 1))

/-- The cells of a slice's first `n` elements. -/
def sliceCells (s : AState) (esz n : Nat) : AVal → R (List AVal)
  | .slice b o _ _ => do takeN (← getCells s b) o (n * esz)
  | .lit (.slice none _ _) => .ok []
  | _ => .fail "slice expected"

def lenOfA : AVal → R Nat
  | .slice _ _ n _ => .ok n
  | .lit (.slice none n _) => bif Nat.beq n 0 then .ok 0 else .fail "a nil slice"
  | _ => .fail "slice expected"

def appendNew (s : AState) (esz n m : Nat) (cs : List AVal) : R (AVal × AState) := do
  guardR (Nat.ble (n + m) 1000000) "append: too long"
  let s' ← s.allocS (.cells cs true)
  .ok (.slice s.next 0 (n + m) (.grown esz), s')

def appendIn (s : AState) (b o n m esz : Nat) (cap : ACap) (new : List AVal) : R (AVal × AState) := do
  let s' ← storeCellsA s b (o + n * esz) new
  .ok (.slice b o (n + m) cap, s')

def appendGrown (s : AState) (b o n m esz : Nat) (new cs : List AVal) (g : Bool) : R (AVal × AState) := do
  guardR g "append: a block of known length"
  bif Nat.ble (o + (n + m) * esz) cs.length then appendIn s b o n m esz (.grown esz) new else do
    guardR (Nat.beq o 0 && Nat.ble s.ro b && Nat.ble (n * esz) cs.length) "append: in the middle"
    let s1 ← s.put b none
    appendNew s1 esz n m (cs.take (n * esz) ++ new)

def appendTo (s : AState) (esz m : Nat) (new : List AVal) (x : AVal) : R (AVal × AState) :=
  match x with
  | .lit (.slice none n c) => do
    guardR (Nat.beq n 0 && Nat.beq c 0) "append: nil"
    bif Nat.beq m 0 then .ok (.lit (.slice none 0 0), s) else appendNew s esz 0 m new
  | .slice b o n (.known c) => bif Nat.ble (n + m) c then (bif Nat.beq m 0 then .ok (.slice b o n (.known c), s) else appendIn s b o n m esz (.known c) new) else do
      let cs ← getCells s b
      let old ← takeN cs o (n * esz)
      appendNew s esz n m (old ++ new)
  | .slice b o n (.grown e) => do
    guardR (Nat.beq e esz) "append: another element"
    match ← s.get b with
    | .cells cs g => appendGrown s b o n m esz new cs g
    | _ => .fail "cells expected"
  | _ => .fail "append: slice expected"

def appendA (P : Program) (s : AState) (sT yT : TypeId) (x y : AVal) : R (AVal × AState) := do
  match ← und P sT, ← und P yT with
  | .slice elem, .slice _ => do
    let esz ← szOf P elem
    let by_ ← byOf P elem
    let z ← zeroOf P elem
    guardR (Nat.ble 1 esz && Nat.ble by_ 1000000 && Nat.beq z.cells.length esz) "append: element"
    let m ← lenOfA y
    let new ← sliceCells s esz m y
    guardR (new.all AVal.oneCell) "append: cells"
    appendTo s esz m new x
  | _, _ => .fail "append: slice types expected"

def boundA (x : AVal) (y : Nat) : R Nat := do
  match ← asNatLit x with
  | (_, .ofNat i) => bif Nat.ble i y then .ok i else .fail "slice bounds"
  | _ => .fail "slice bounds"

def optEv (ev : Operand → R AVal) : Option Operand → R (Option AVal)
  | none => .ok none
  | some x => do .ok (some (← ev x))

def optBound (x : Option AVal) (y d : Nat) : R Nat :=
  match x with
  | some v => boundA v y
  | none => .ok d

def hiBound (hi mx : Option AVal) (m len : Nat) : R Nat :=
  match hi with
  | some v => boundA v m
  | none => match mx with
    | none => .ok len
    | some _ => .fail "slice: max without high"

def boundsA (len cap : Nat) (lo hi mx : Option AVal) : R (Nat × Nat × Nat) := do
  let m ← optBound mx cap cap
  let h ← hiBound hi mx m len
  let l ← optBound lo h 0
  .ok (l, h, m)

/-- `x[lo:hi:mx]`. -/
def sliceOp (P : Program) (t : TypeId) (x : AVal) (lo hi mx : Option AVal) : R AVal := do
  match ← und P t with
  | .slice elem => do
    let esz ← szOf P elem
    match x with
    | .lit (.slice none n c) => do
      let (l, h, m) ← boundsA n c lo hi mx
      .ok (.lit (.slice none (h - l) (m - l)))
    | .slice b o n (.known c) => do
      let (l, h, m) ← boundsA n c lo hi mx
      .ok (.slice b (bif Nat.beq m l then o else o + l * esz) (h - l) (.known (m - l)))
    | .slice b o n (.grown e) => do
      guardR (Nat.beq e esz) "slice: another element"
      let (l, h, m) ← boundsA n n lo hi mx
      match mx with
      | some _ => .ok (.slice b (bif Nat.beq m l then o else o + l * esz) (h - l) (.known (m - l)))
      | none => do
        guardR (Nat.blt l n || Nat.beq l 0) "slice: at the end"
        .ok (.slice b (o + l * esz) (h - l) (.grown e))
    | _ => .fail "slice expected"
  | .array n elem => do
    let esz ← szOf P elem
    match x with
    | .ptr b o => do
      let (l, h, m) ← boundsA n n lo hi mx
      .ok (.slice b (bif Nat.beq m l then o else o + l * esz) (h - l) (.known (m - l)))
    | _ => .fail "an array's address expected"
  | _ => .fail "slice: type"

/-- Is it nil? of what may be compared with nil. -/
def nilOf : TypeDesc → AVal → R Bool
  | .pointer _, .lit (.pointer none) => .ok true
  | .pointer _, .ptr _ _ => .ok false
  | .slice _, .lit (.slice none _ _) => .ok true
  | .slice _, .slice _ _ _ _ => .ok false
  | .map _ _, .lit (.map none) => .ok true
  | .map _ _, .map _ => .ok false
  | .func _ _ _, .lit .nilFunc => .ok true
  | .func _ _ _, .clo _ _ => .ok false
  | _, _ => .fail "a comparison"

def aeqNil (P : Program) (t : TypeId) (x y : AVal) : R Bool := do
  let d ← und P t
  let a ← nilOf d x
  let b ← nilOf d y
  match a, b with
  | true, true => .ok true
  | true, false => .ok false
  | false, true => .ok false
  | false, false => .fail "a comparison of two references"

/-- Cells of integers that are surely alike. -/
def sameInts : List AVal → List AVal → Bool
  | [], [] => true
  | .sym i :: r, .sym j :: r' => Nat.beq i j && sameInts r r'
  | .lit (.int k n) :: r, .lit (.int k' n') :: r' => decide (k = k') && decide (n = n') && sameInts r r'
  | _, _ => false

/-- A type of arrays of integers. -/
def intArray (P : Program) (t : TypeId) (n : Nat) : Bool :=
  match P.underlying t with
  | some (.array m e) => Nat.beq m n && (match P.underlying e with | some (.int _) => true | _ => false) && decide ((P.info? e).map (·.size) = some 1) && !P.eqGuardType P.depth t
  | _ => false

def aeqSame (P : Program) (t : TypeId) (x y : AVal) : R Bool :=
  match x, y with
  | .agg l, .agg l' => bif sameInts l l' && intArray P t l.length then .ok true else .fail "a comparison of what is not known"
  | _, _ => aeqNil P t x y

/-! Operators on whole numbers, the short way. -/
def kindNo : IntKind → Nat
  | .i8 => nat_lit 0
  | .i16 => nat_lit 1
  | .i32 => nat_lit 2
  | .i64 => nat_lit 3
  | .u8 => nat_lit 4
  | .u16 => nat_lit 5
  | .u32 => nat_lit 6
  | .u64 => nat_lit 7

def kindTop : IntKind → Nat
  | .i8 => nat_lit 127
  | .i16 => nat_lit 32767
  | .i32 => nat_lit 2147483647
  | .i64 => nat_lit 9223372036854775807
  | .u8 => nat_lit 255
  | .u16 => nat_lit 65535
  | .u32 => nat_lit 4294967295
  | .u64 => nat_lit 18446744073709551615

def intEq : Int → Int → Bool
  | .ofNat a, .ofNat b => Nat.beq a b
  | .negSucc a, .negSucc b => Nat.beq a b
  | _, _ => false

def intLt : Int → Int → Bool
  | .ofNat a, .ofNat b => Nat.blt a b
  | .ofNat _, .negSucc _ => false
  | .negSucc _, .ofNat _ => true
  | .negSucc a, .negSucc b => Nat.blt b a

def natIn (k : IntKind) (n : Nat) : Option Value := bif Nat.ble n (kindTop k) then forceN n fun n => some (.int k (.ofNat n)) else none

def fastBin (op : BinOp) (k : IntKind) (a b : Int) : Option Value :=
  match op with
  | .eql => some (.bool (intEq a b))
  | .neq => some (.bool (!(intEq a b)))
  | .lss => some (.bool (intLt a b))
  | .leq => some (.bool (!(intLt b a)))
  | .gtr => some (.bool (intLt b a))
  | .geq => some (.bool (!(intLt a b)))
  | .add => match a, b with
    | .ofNat a, .ofNat b => natIn k (Nat.add a b)
    | _, _ => none
  | .sub => match a, b with
    | .ofNat a, .ofNat b => bif Nat.ble b a then natIn k (Nat.sub a b) else none
    | _, _ => none
  | .mul => match a, b with
    | .ofNat a, .ofNat b => natIn k (Nat.mul a b)
    | _, _ => none
  | _ => none

def fastOp (op : BinOp) : AVal → AVal → Option AVal
  | .lit (.int k a), .lit (.int j b) => bif Nat.beq (kindNo k) (kindNo j) then (match fastBin op k a b with | some v => some (.lit v) | none => none) else none
  | _, _ => none

def slowOp (P : Program) (op : BinOp) (t : TypeId) (ox oy : Operand) (x y : AVal) : R AVal :=
  match toVal x, toVal y with
  | some v, some w => litV (pureRun P (do eqGuard op t ox oy v w; binOp op t v w))
  | _, _ => match op with
    | .eql => do .ok (.lit (.bool (← aeqSame P t x y)))
    | .neq => do .ok (.lit (.bool (!(← aeqSame P t x y))))
    | _ => .fail "an operator on references"

def abinOp (P : Program) (op : BinOp) (t : TypeId) (ox oy : Operand) (x y : AVal) : R AVal :=
  match fastOp op x y with
  | some v => forceV v .ok
  | none => slowOp P op t ox oy x y

def oneInt : AVal → R (IntKind × Int)
  | .lit (.int k n) => .ok (k, n)
  | _ => .fail "min, max: integers expected"

def foldInt (f : Int → Int → Int) (k : IntKind) (a : Int) : List AVal → R AVal
  | [] => .ok (.lit (.int k a))
  | x :: r => do
    let (_, b) ← oneInt x
    foldInt f k (f a b) r

def lenA (P : Program) (s : AState) (t : TypeId) (x : AVal) : R Nat := do
  match ← und P t, x with
  | .string, .lit (.string b) => .ok b.size
  | .array n _, _ => .ok n
  | .slice _, .slice _ _ n _ => .ok n
  | .slice _, .lit (.slice none n _) => .ok n
  | .map _ _, .lit (.map none) => .ok 0
  | .map _ _, .map b => match ← s.get b with
    | .map es _ => .ok es.length
    | _ => .fail "len: map expected"
  | _, _ => .fail "len"

def deleteA (P : Program) (s : AState) (t : TypeId) (m k : AVal) : R (AVal × AState) := do
  let _ ← intKey P t
  let k ← asKey k
  let (b, es, c) ← mapOf s m
  match ← findA k es 0 with
  | some (i, _) => do .ok (aundef, ← s.write b (.map (es.eraseIdx i) c))
  | none => .ok (aundef, s)

def copyTo (s : AState) (k : Nat) (new : List AVal) (x : AVal) : R (AVal × AState) :=
  match x with
  | .slice b o _ _ => do .ok (.lit (.int .i64 (k : Int)), ← storeCellsA s b o new)
  | .lit (.slice none _ _) => .ok (.lit (.int .i64 (k : Int)), s)
  | _ => .fail "copy"

def copyA (P : Program) (s : AState) (t : TypeId) (x y : AVal) : R (AVal × AState) := do
  match ← und P t with
  | .slice elem => do
    let esz ← szOf P elem
    let n ← lenOfA x
    let m ← lenOfA y
    let new ← sliceCells s esz (min m n) y
    copyTo s (min m n) new x
  | _ => .fail "copy: slice type expected"

def clearA (P : Program) (s : AState) (t : TypeId) (x : AVal) : R (AVal × AState) := do
  match ← und P t, x with
  | .slice elem, .slice b o n _ => do
    let z ← zeroOf P elem
    .ok (aundef, ← storeCellsA s b o (repl n z.cells))
  | _, _ => .fail "clear"

def minI (a b : Int) : Int := if b < a then b else a
def maxI (a b : Int) : Int := if b > a then b else a

def foldA (f : Int → Int → Int) (x : AVal) (r : List AVal) : R AVal := do
  let (k, a) ← oneInt x
  foldInt f k a r

def abuiltin (P : Program) (s : AState) (b : Builtin) (ts : List TypeId) (args : List AVal) : R (AVal × AState) :=
  match b, args with
  | .append, [x, y] => match ts with
    | [t, t'] => appendA P s t t' x y
    | _ => .fail "append"
  | .len, [x] => match ts with
    | [t] => do .ok (.lit (.int .i64 ((← lenA P s t x) : Int)), s)
    | _ => .fail "len"
  | .min, x :: r => do .ok (← foldA minI x r, s)
  | .max, x :: r => do .ok (← foldA maxI x r, s)
  | .delete, [m, k] => match ts with
    | t :: _ => deleteA P s t m k
    | _ => .fail "delete"
  | .copy, [x, y] => match ts with
    | t :: _ => copyA P s t x y
    | _ => .fail "copy"
  | .clear, [x] => match ts with
    | t :: _ => clearA P s t x
    | _ => .fail "clear"
  | .complex, [.lit (.float k a), .lit (.float k' b)] => bif decide (k = k') then .ok (.lit (.complex k a b), s) else .fail "complex"
  | .real, [.lit (.complex k a _)] => .ok (.lit (.float k a), s)
  | .imag, [.lit (.complex k _ b)] => .ok (.lit (.float k b), s)
  | _, _ => .fail "a builtin"

def okv (v : AVal) (s : AState) : R (ANext × AState) := .ok (.val v, s)

def idxOf (i : Int) (n : Nat) : R Nat :=
  match i with
  | .ofNat k => bif Nat.blt k n then .ok k else .fail "an index out of range"
  | _ => .fail "an index out of range"

def nilCk : AVal → R AVal
  | .lit (.pointer none) => .fail "nil"
  | .lit .nilIface => .fail "nil"
  | .lit .nilFunc => .fail "nil"
  | .lit (.func _ _ _) => .fail "a function"
  | v => .ok v

def opMove (P : Program) (ev : Operand → R AVal) (x : Operand) (s : AState) : R (ANext × AState) :=
  do okv (← ev x) s

def opPick (P : Program) (ev : Operand → R AVal) (c : Operand) (a : Operand) (b : Operand) (s : AState) : R (ANext × AState) :=
  do
  let c ← asBoolLit (← ev c)
  let a ← ev a
  let b ← ev b
  okv (bif c then a else b) s

def opAlloc (P : Program) (ev : Operand → R AVal) (t : TypeId) (s : AState) : R (ANext × AState) :=
  do okv (.ptr s.next 0) (← s.alloc (.cells (← zeroOf P t).cells false))

def opBox (P : Program) (ev : Operand → R AVal) (x : Operand) (s : AState) : R (ANext × AState) :=
  do
  let v ← ev x
  guardR (v.cells.all AVal.oneCell) "box"
  okv (.ptr s.next 0) (← s.alloc (.cells v.cells false))

def opBuild (P : Program) (ev : Operand → R AVal) (t : TypeId) (parts : Array (Nat × Operand)) (s : AState) : R (ANext × AState) :=
  do
  let z ← zeroOf P t
  let ps ← evParts ev parts.toList
  match ← und P t with
  | .struct fs => do
    let pl ← fieldPlaces P fs.toList
    okv (.agg (← R.of "build" (afill (fun i => pl[i]?) z.cells ps))) s
  | .array _ e => do
    let n ← szOf P e
    okv (.agg (← R.of "build" (afill (fun i => some (i * n, n)) z.cells ps))) s
  | _ => .fail "build"

def opBuildSlice (P : Program) (ev : Operand → R AVal) (t : TypeId) (len : Nat) (parts : Array (Nat × Operand)) (s : AState) : R (ANext × AState) :=
  do
  match ← und P t with
  | .slice e => do
    let n ← szOf P e
    guardR (Nat.ble (len * n) 16777216) "buildSlice"
    let z ← zeroOf P e
    let ps ← evParts ev parts.toList
    guardR (Nat.beq z.cells.length n) "buildSlice: zero"
    let cs ← R.of "buildSlice" (afill (fun i => some (i * n, n)) (repl len z.cells) ps)
    guardR (cs.all AVal.oneCell) "buildSlice: cells"
    okv (.slice s.next 0 len (.known len)) (← s.alloc (.cells cs false))
  | _ => .fail "buildSlice"

def opLoad (P : Program) (ev : Operand → R AVal) (t : TypeId) (x : Operand) (s : AState) : R (ANext × AState) :=
  do
  let (b, o) ← asPtr (← ev x)
  okv (← loadA P s t b o) s

def opStore (P : Program) (ev : Operand → R AVal) (t : TypeId) (x : Operand) (v : Operand) (s : AState) : R (ANext × AState) :=
  do
  let (b, o) ← asPtr (← ev x)
  okv aundef (← storeA P s t b o (← ev v))

def opNilCheck (P : Program) (ev : Operand → R AVal) (x : Operand) (s : AState) : R (ANext × AState) :=
  do okv (← nilCk (← ev x)) s

def opBinOp (P : Program) (ev : Operand → R AVal) (op : BinOp) (t : TypeId) (x : Operand) (y : Operand) (s : AState) : R (ANext × AState) :=
  do
  let v ← ev x
  let w ← ev y
  okv (← abinOp P op t x y v w) s

def opUnOp (P : Program) (ev : Operand → R AVal) (op : UnOp) (x : Operand) (s : AState) : R (ANext × AState) :=
  do
  match ← ev x with
  | .lit v => do okv (← litV (pureRun P (Op.unary op v))) s
  | _ => .fail "a unary operator"

def opConvert (P : Program) (ev : Operand → R AVal) (a : TypeId) (b : TypeId) (x : Operand) (s : AState) : R (ANext × AState) :=
  do
  match ← ev x with
  | .lit v => do okv (← litV (pureRun P (convert a b v))) s
  | _ => .fail "a conversion"

def opMakeFunc (P : Program) (ev : Operand → R AVal) (f : FuncId) (first : Array Operand) (caps : Array Operand) (s : AState) : R (ANext × AState) :=
  do
  guardR (Nat.beq first.size 0) "a method value"
  okv (.clo f (← evs ev caps.toList)) s

def opMakeMap (P : Program) (ev : Operand → R AVal) (s : AState) : R (ANext × AState) :=
  do okv (.map s.next) (← s.alloc (.map [] 0))

def opMakeSlice (P : Program) (ev : Operand → R AVal) (t : TypeId) (l : Operand) (c : Operand) (s : AState) : R (ANext × AState) :=
  do
  match ← und P t with
  | .slice e => do
    let (_, l) ← asNatLit (← ev l)
    let (_, c) ← asNatLit (← ev c)
    let z ← zeroOf P e
    let n ← szOf P e
    let by_ ← byOf P e
    guardR (Nat.ble by_ 1000000 && Nat.beq z.cells.length n && Nat.ble 1 n) "make: element"
    match l, c with
    | .ofNat l, .ofNat c => do
      guardR (Nat.ble l c && Nat.ble c 1000000) "make: sizes"
      okv (.slice s.next 0 l (.known c)) (← s.alloc (.cells (repl c z.cells) false))
    | _, _ => .fail "make: sizes"
  | _ => .fail "make"

def opSlice (P : Program) (ev : Operand → R AVal) (t : TypeId) (x : Operand) (lo : Option Operand) (hi : Option Operand) (mx : Option Operand) (s : AState) : R (ANext × AState) :=
  do
  let v ← ev x
  let lo ← optEv ev lo
  let hi ← optEv ev hi
  let mx ← optEv ev mx
  okv (← sliceOp P t v lo hi mx) s

def opFieldAddr (P : Program) (ev : Operand → R AVal) (t : TypeId) (x : Operand) (f : Nat) (s : AState) : R (ANext × AState) :=
  do
  let (b, o) ← asPtr (← ev x)
  match ← und P t with
  | .struct fs => do
    let fd ← R.of "no such field" fs[f]?
    let n ← szOf P fd.type
    guardR (Nat.ble 1 n) "an empty field"
    okv (.ptr b (o + fd.offset)) s
  | _ => .fail "struct type expected"

def opField (P : Program) (ev : Operand → R AVal) (t : TypeId) (x : Operand) (f : Nat) (s : AState) : R (ANext × AState) :=
  do
  match ← ev x, ← und P t with
  | .agg cs, .struct fs => do
    let fd ← R.of "no such field" fs[f]?
    okv (← partA P fd.type cs fd.offset) s
  | _, _ => .fail "field"

def opIndexAddr (P : Program) (ev : Operand → R AVal) (t : TypeId) (x : Operand) (i : Operand) (s : AState) : R (ANext × AState) :=
  do
  let (_, i) ← asNatLit (← ev i)
  match ← und P t, ← ev x with
  | .array n e, .ptr b o => do
    let k ← idxOf i n
    okv (.ptr b (o + k * (← szOf P e))) s
  | .slice e, .slice b o n _ => do
    let k ← idxOf i n
    okv (.ptr b (o + k * (← szOf P e))) s
  | _, _ => .fail "indexAddr"

def opIndex (P : Program) (ev : Operand → R AVal) (t : TypeId) (x : Operand) (i : Operand) (s : AState) : R (ANext × AState) :=
  do
  let (_, i) ← asNatLit (← ev i)
  match ← und P t, ← ev x with
  | .array n e, .agg cs => do
    let k ← idxOf i n
    okv (← partA P e cs (k * (← szOf P e))) s
  | .string, .lit (.string b) => match i with
    | .ofNat k => do
      let c ← R.of "index" b[k]?
      okv (.lit (.int .u8 c.toNat)) s
    | _ => .fail "index"
  | _, _ => .fail "index"

def lookIn (s : AState) (m : AVal) (k : Value) : R (Option (Nat × AVal)) :=
  match m with
  | .lit (.map none) => .ok none
  | m => do
    let (_, es, _) ← mapOf s m
    findA k es 0

def lookVal (P : Program) (e : TypeId) (r : Option (Nat × AVal)) : R (AVal × Bool) :=
  match r with
  | some (_, v) => .ok (v, true)
  | none => do .ok (← zeroOf P e, false)

def opLookup (P : Program) (ev : Operand → R AVal) (t : TypeId) (x : Operand) (k : Operand) (ok : Bool) (s : AState) : R (ANext × AState) := do
  let e ← intKey P t
  let k ← asKey (← ev k)
  let x ← ev x
  let r ← lookIn s x k
  let p ← lookVal P e r
  okv (bif ok then .tup [p.1, .lit (.bool p.2)] else p.1) s

def opMapUpdate (P : Program) (ev : Operand → R AVal) (t : TypeId) (m : Operand) (k : Operand) (v : Operand) (s : AState) : R (ANext × AState) :=
  do
  let _ ← intKey P t
  let k ← asKey (← ev k)
  let v ← ev v
  let (b, es, c) ← mapOf s (← ev m)
  okv aundef (← mapPut s b es c k v)

def opMapEntry (P : Program) (ev : Operand → R AVal) (t : TypeId) (m : Operand) (k : Operand) (s : AState) : R (ANext × AState) :=
  do
  let e ← intKey P t
  let k ← asKey (← ev k)
  let (b, es, c) ← mapOf s (← ev m)
  match ← findA k es 0 with
  | some (i, v) => do
    let s ← s.write b (.map (es.modify i fun e => { e with key := k }) c)
    okv (.tup [v, .lit (.int .i64 (((es[i]?).map (·.born)).getD 0))]) s
  | none => do
    let z ← zeroOf P e
    let s ← s.write b (.map (es ++ [{ key := k, val := z, born := c }]) (c + 1))
    okv (.tup [z, .lit (.int .i64 c)]) s

def opEntryStore (P : Program) (ev : Operand → R AVal) (m : Operand) (st : Operand) (v : Operand) (s : AState) : R (ANext × AState) :=
  do
  let (_, st) ← asNatLit (← ev st)
  let v ← ev v
  let (b, es, c) ← mapOf s (← ev m)
  match es.findIdx? (fun e => (e.born : Int) == st) with
  | some i => do okv aundef (← s.write b (.map (es.modify i fun e => { e with val := v }) c))
  | none => .fail "the entry is gone"

def opRange (P : Program) (ev : Operand → R AVal) (t : TypeId) (x : Operand) (s : AState) : R (ANext × AState) :=
  do
  match ← und P t, ← ev x with
  | .map _ _, .lit (.map none) => do okv (.ptr s.next 0) (← s.alloc (.iter none 0 [] 0))
  | .map _ _, .map m => match ← s.get m with
    | .map _ c => do okv (.ptr s.next 0) (← s.alloc (.iter (some m) c [] c))
    | _ => .fail "range"
  | _, _ => .fail "range"

/-- What is left of a ranged map. -/
def leftA (es : List AEntry) (seen : List Nat) : List AEntry := es.filter fun e => !seen.contains e.born

def opNext (ev : Operand → R AVal) (it : Operand) (s : AState) : R (ANext × AState) := do
  let (r, o) ← asPtr (← ev it)
  guardR (Nat.beq o 0) "next"
  match ← s.get r with
  | .iter none _ _ _ => okv (.tup [.lit (.bool false)]) s
  | .iter (some m) since seen last => match ← s.get m with
    | .map es c => do
      guardR (Nat.ble since last && es.all fun e => Nat.blt e.born since) "next: new ones"
      match leftA es seen with
      | [] => okv (.tup [.lit (.bool false)]) s
      | [e] => do
        guardR (vOne e.key) "next: key"
        let s1 ← s.write r (.iter (some m) since (seen ++ [e.born]) c)
        okv (.tup [.lit (.bool true), .lit e.key, e.val]) s1
      | l => .ok (.choose l.length (fun _ => .fail "a choice"), s)
    | _ => .fail "next"
  | _ => .fail "next"

def opEntry (P : Program) (ev : Operand → R AVal) (it : Operand) (s : AState) : R (ANext × AState) :=
  do
  let (r, o) ← asPtr (← ev it)
  guardR (Nat.beq o 0) "entry"
  match ← s.get r with
  | .iter (some m) _ seen last => match ← s.get m with
    | .map es c => do
      guardR (Nat.beq c last) "entry: an insertion"
      let st ← R.of "entry" seen.getLast?
      match es.find? fun e => Nat.beq e.born st with
      | some e => do
        guardR (vOne e.key) "entry: key"
        okv (.tup [.lit e.key, e.val]) s
      | none => .fail "entry: gone"
    | _ => .fail "entry"
  | _ => .fail "entry"

def opExtract (P : Program) (ev : Operand → R AVal) (t : Operand) (i : Nat) (s : AState) : R (ANext × AState) :=
  do
  match ← ev t with
  | .tup vs => do okv (← nth vs i) s
  | _ => .fail "tuple expected"

def plainFn (P : Program) (f : FuncId) : Bool :=
  match P.funcs[f]? with
  | some fn => fn.body.isSome && fn.name != "runtime.NumGoroutine"
  | none => false

def opCall (P : Program) (ev : Operand → R AVal) (c : Call) (s : AState) : R (ANext × AState) :=
  do
  let args ← evs ev c.args.toList
  match c.callee with
  | .builtin b => do
    let (v, s) ← abuiltin P s b c.argTypes.toList args
    okv v s
  | .value f => match ← ev f with
    | .clo f caps => do
      guardR (plainFn P f) "call: no such function"
      .ok (.enter f (args ++ caps), s)
    | _ => .fail "function expected"
  | _ => .fail "invoke"

def aop (P : Program) (ev : Operand → R AVal) (o : Oper) (s : AState) : R (ANext × AState) :=
  match o.op with
  | .move x | .assign x => opMove P ev x s
  | .pick c a b => opPick P ev c a b s
  | .alloc t => opAlloc P ev t s
  | .box _ x => opBox P ev x s
  | .build t parts => opBuild P ev t parts s
  | .buildSlice t len parts => opBuildSlice P ev t len parts s
  | .load t x => opLoad P ev t x s
  | .store t x v => opStore P ev t x v s
  | .nilCheck x => opNilCheck P ev x s
  | .binOp op t x y _ => opBinOp P ev op t x y s
  | .unOp op _ x => opUnOp P ev op x s
  | .convert a b x => opConvert P ev a b x s
  | .makeFunc (.func f) first caps => opMakeFunc P ev f first caps s
  | .makeMap _ none => opMakeMap P ev s
  | .makeSlice t l c => opMakeSlice P ev t l c s
  | .slice t x lo hi mx => opSlice P ev t x lo hi mx s
  | .fieldAddr t x f => opFieldAddr P ev t x f s
  | .field t x f => opField P ev t x f s
  | .indexAddr t x i => opIndexAddr P ev t x i s
  | .index t x i => opIndex P ev t x i s
  | .lookup t x k ok => opLookup P ev t x k ok s
  | .mapUpdate t m k v | .insert t m k v => opMapUpdate P ev t m k v s
  | .mapEntry t m k => opMapEntry P ev t m k s
  | .entryStore _ m st v => opEntryStore P ev m st v s
  | .range t x => opRange P ev t x s
  | .next it false => opNext ev it s
  | .entry it => opEntry P ev it s
  | .extract t i => opExtract P ev t i s
  | .call c => opCall P ev c s
  | _ => .fail "an operation"

/-! ### Code -/
inductive AExit where
  | normal
  | exit (id : Nat)
  | goto (l : Nat)
  | ret
deriving Inhabited

inductive Task where
  | call (f : FuncId) (args : List AVal)
  | code (c : Code) (a : AAct)
  | inscope (body c : Code) (a : AAct)
  | ask (o : Op) (vs : List AVal)
deriving Inhabited

inductive Done where
  | val (v : AVal)
  | out (e : AExit) (a : AAct)
deriving Inhabited

abbrev Rec := Task → AState → R (Done × AState)

def AAct.put (a : AAct) (dst : Option Tmp) (v : AVal) : R AAct :=
  match dst with
  | some d => match a with
    | ⟨t, n⟩ => cond (Nat.blt d n && Nat.ble d lim) (forceV v fun v => Tr.setK (some v) 40 t d fun t => .ok ⟨t, n⟩) (.fail "put")
  | none => .ok a

def nthOp : List Oper → Nat → Option Oper
  | [], _ => none
  | o :: r, i => match i with
    | .zero => some o
    | .succ i => nthOp r i

def doCall (rec : Rec) (f : FuncId) (args : List AVal) (s : AState) : R (AVal × AState) := do
  match ← rec (.call f args) s with
  | (.val v, s) => .ok (v, s)
  | _ => .fail "call"

def doCode (rec : Rec) (c : Code) (a : AAct) (s : AState) : R (AExit × AAct × AState) := do
  match ← rec (.code c a) s with
  | (.out e a, s) => .ok (e, a, s)
  | _ => .fail "code"

def wantedA (ops : List Oper) (a : AAct) (o : Oper) : R Bool :=
  match o.guard with
  | none => .ok true
  | some (g, want) => match (nthOp ops g).bind (·.dst) with
    | some t => match a.tmps.get t with
      | some (.lit (.bool b)) => .ok (b == want)
      | some (.tup []) => .ok false
      | _ => .fail "guard"
    | none => .fail "guard"

/-- Operations whose answer may be told from outside, where the machine has none. -/
def asked : Op → Bool
  | .binOp .. | .convert .. | .unOp .. | .call _ => true
  | _ => false

def askA (rec : Rec) (ev : Operand → R AVal) (o : Oper) (s : AState) (w : String) : R (AVal × AState) :=
  bif asked o.op then
    match evs ev o.op.operands.toList with
    | .ok vs => match rec (.ask o.op vs) s with
      | .ok (.val v, _) => .ok (v, s)
      | _ => .fail w
    | .fail e => .fail e
  else .fail w

def execA (P : Program) (rec : Rec) (ev : Operand → R AVal) (o : Oper) (s : AState) : R (AVal × AState) :=
  match aop P ev o s with
  | .ok (.val v, s) => .ok (v, s)
  | .ok (.enter f args, s) => doCall rec f args s
  | .ok _ => .fail "a choice"
  | .fail w => askA rec ev o s w

def stepOp (P : Program) (rec : Rec) (ops : List Oper) (o : Oper) (a : AAct) (s : AState) : R (AAct × AState) := do
  let w ← wantedA ops a o
  bif w then do
    let p ← execA P rec (aev a) o s
    .ok (← a.put o.dst p.1, p.2)
  else do .ok (← a.put o.dst aundef, s)

def runOps (P : Program) (rec : Rec) (ops : List Oper) : List Oper → AAct → AState → R (AAct × AState)
  | [], a, s => .ok (a, s)
  | o :: rest, a, s => do
    let (a, s) ← stepOp P rec ops o a s
    runOps P rec ops rest a s

def initTmps {β : Type} : List AVal → Nat → Tr AVal → (Tr AVal → β) → β
  | [], _, t, c => c t
  | v :: r, i, t, c => forceV v fun v => Tr.setK (some v) 40 t i fun t => initTmps r (Nat.succ i) t c

def resA (P : Program) (a : AAct) (s : AState) : List ResultVar → R (List AVal)
  | [] => .ok []
  | .tmp t :: r => do
    let v ← R.of "result" (a.tmps.get t)
    let l ← resA P a s r
    .ok (v :: l)
  | .cell c t :: r => do
    match a.tmps.get c with
    | some (.ptr b o) => do
      let v ← loadA P s t b o
      let l ← resA P a s r
      .ok (v :: l)
    | _ => .fail "result"

abbrev Prims := FuncId → Option (List AVal → AState → R (AVal × AState))

/-- What is known of operations on unknown numbers. -/
abbrev Facts := Op → List AVal → Option AVal

def noFacts : Facts := fun _ _ => none

def stepT (P : Program) (prims : Prims) (facts : Facts) (drawOk : Rec → List Oper → AAct → AState → R (AAct × AState)) (rec : Rec) : Rec
  | .call f args, s => match prims f with
    | some p => do
      let (v, s) ← p args s
      .ok (.val v, s)
    | none => do
      let fn ← R.of "no such function" P.funcs[f]?
      let body ← R.of "no body" fn.body
      guardR (Nat.ble args.length fn.ntmps && Nat.ble fn.ntmps lim) "call"
      let (e, a, s) ← initTmps args (nat_lit 0) .leaf fun t => doCode rec body ⟨t, fn.ntmps⟩ s
      match e with
      | .normal | .ret => do
        match ← resA P a s fn.results.toList with
        | [v] => .ok (.val v, s)
        | vs => .ok (.val (.tup vs), s)
      | _ => .fail "jump"
  | .code c a, s => match c with
    | .skip | .label _ => .ok (.out .normal a, s)
    | .region _ ops d => do
      let (a, s) ← bif d then drawOk rec ops.toList a s else runOps P rec ops.toList ops.toList a s
      .ok (.out .normal a, s)
    | .seq x y => do
      match ← doCode rec x a s with
      | (.normal, a, s) => rec (.code y a) s
      | (e, a, s) => .ok (.out e a, s)
    | .cond c x y => do
      let b ← asBoolLit (← aev a c)
      rec (.code (bif b then x else y) a) s
    | .block id x => do
      match ← doCode rec x a s with
      | (.exit id', a, s) => .ok (.out (bif Nat.beq id' id then .normal else .exit id') a, s)
      | (e, a, s) => .ok (.out e a, s)
    | .loop x => do
      match ← doCode rec x a s with
      | (.normal, a, s) => rec (.code (.loop x) a) s
      | (e, a, s) => .ok (.out e a, s)
    | .exit id => .ok (.out (.exit id) a, s)
    | .goto l => .ok (.out (.goto l) a, s)
    | .ret => .ok (.out .ret a, s)
    | .scope x => rec (.inscope x x a) s
    | _ => .fail "code"
  | .ask o vs, s => match facts o vs with
    | some v => .ok (.val v, s)
    | none => .fail "no fact"
  | .inscope body c a, s => do
    match ← doCode rec c a s with
    | (.goto l, a, s) => match findLabel body l with
      | some rest => rec (.inscope body rest a) s
      | none => .ok (.out (.goto l) a, s)
    | (e, a, s) => .ok (.out e a, s)

def run (P : Program) (prims : Prims) (facts : Facts) (drawOk : Rec → List Oper → AAct → AState → R (AAct × AState)) (n : Nat) : Rec :=
  Nat.rec (fun _ _ => .fail "fuel") (fun _ ih => stepT P prims facts drawOk ih) n

end
end Go.Am
