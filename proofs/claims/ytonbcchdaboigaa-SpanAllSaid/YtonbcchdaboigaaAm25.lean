/-
  The machine that looks at every order in which a map may be ranged over; definitions.
-/
import Derived.Test.YtonbcchdaboigaaAm24
namespace Go.Am
open Go Go.RowKit
set_option linter.unusedVariables false
noncomputable section

abbrev XRec (β : Type) := Task → AState → (Done → AState → R β) → R β

/-- All of them come to the same. -/
def allSame {α β : Type} (eq : β → β → Bool) (f : α → R β) (r : β) : List α → R β
  | [] => .ok r
  | x :: l => match f x with
    | .ok y => bif eq r y then allSame eq f r l else .fail "the order counts"
    | .fail w => .fail w

def nextX {β : Type} (eq : β → β → Bool) (ev : Operand → R AVal) (it : Operand) (s : AState) (k : AVal → AState → R β) : R β := do
  let (r, o) ← asPtr (← ev it)
  guardR (Nat.beq o 0) "next"
  match ← s.get r with
  | .iter none _ _ _ => k (.tup [.lit (.bool false)]) s
  | .iter (some m) since seen last => match ← s.get m with
    | .map es c => do
      guardR (Nat.ble since last && es.all fun e => Nat.blt e.born since) "next: new ones"
      let one : AEntry → R β := fun e => do
        guardR (vOne e.key) "next: key"
        let s1 ← s.write r (.iter (some m) since (seen ++ [e.born]) c)
        k (.tup [.lit (.bool true), .lit e.key, e.val]) s1
      match leftA es seen with
      | [] => k (.tup [.lit (.bool false)]) s
      | e :: l => do
        let r ← one e
        allSame eq one r l
    | _ => .fail "next"
  | _ => .fail "next"

/-- A comparison of two unknown numbers. -/
def unsure (op : Op) (vs : List AVal) : Bool := match op, vs with
  | .binOp .lss _ _ _ _, [.sym _, .sym _] => true
  | _, _ => false

def unsureR (op : Op) (vs : R (List AVal)) : Bool := match vs with
  | .ok vs => unsure op vs
  | .fail _ => false

def otherX (P : Program) (both : Bool) {β : Type} (eq : β → β → Bool) (rec : Rec) (ev : Operand → R AVal) (o : Oper) (s : AState) (k : AVal → AState → R β) : R β :=
  match aop P ev o s with
  | .ok (.val v, s1) => k v s1
  | .ok _ => .fail "a choice"
  | .fail w => bif both && unsureR o.op (evs ev o.op.operands.toList) then do
      let r ← k (.lit (.bool true)) s
      allSame eq (fun b => k (.lit (.bool b)) s) r [false]
    else do
      let p ← askA rec ev o s w
      k p.1 p.2

def callX (P : Program) {β : Type} (rec : Rec) (X : XRec β) (ev : Operand → R AVal) (o : Oper) (c : Call) (s : AState) (k : AVal → AState → R β) : R β :=
  match opCall P ev c s with
  | .ok (.val v, s1) => k v s1
  | .ok (.enter f args, s1) => X (.call f args) s1 fun d s2 => match d with
    | .val v => k v s2
    | _ => .fail "call"
  | .ok _ => .fail "a choice"
  | .fail w => do
    let p ← askA rec ev o s w
    k p.1 p.2

def opX (P : Program) (both : Bool) {β : Type} (eq : β → β → Bool) (rec : Rec) (X : XRec β) (ev : Operand → R AVal) (o : Oper) (s : AState) (k : AVal → AState → R β) : R β :=
  match o.op with
  | .next it false => nextX eq ev it s k
  | .call c => callX P rec X ev o c s k
  | _ => otherX P both eq rec ev o s k

def opsX (P : Program) (both : Bool) (M : Nat) {β : Type} (eq : β → β → Bool) (rec : Rec) (X : XRec β) (ops : List Oper) : List Oper → AAct → AState → (AAct → AState → R β) → R β
  | [], a, s, k => k a s
  | o :: rest, a, s, k => do
    let w ← wantedA ops a o
    bif w then opX P both eq rec X (aev a) o s fun v s1 => bif Nat.ble s1.next M then do
        let a1 ← a.put o.dst v
        opsX P both M eq rec X ops rest a1 s1 k
      else .fail "too many blocks"
    else do
      let a1 ← a.put o.dst aundef
      opsX P both M eq rec X ops rest a1 s k

def stepX (P : Program) (both : Bool) (M : Nat) (prims : Prims) {β : Type} (eq : β → β → Bool) (rec : Rec) (X : XRec β) : XRec β
  | .call f args, s, k => match prims f with
    | some p => do
      let (v, s1) ← p args s
      bif Nat.ble s1.next M then k (.val v) s1 else .fail "too many blocks"
    | none => do
      let fn ← R.of "no such function" P.funcs[f]?
      let body ← R.of "no body" fn.body
      guardR (Nat.ble args.length fn.ntmps && Nat.ble fn.ntmps lim) "call"
      initTmps args (nat_lit 0) .leaf fun t => X (.code body ⟨t, fn.ntmps⟩) s fun d s1 =>
        let fin : AAct → R β := fun a => do
          match ← resA P a s1 fn.results.toList with
          | [v] => k (.val v) s1
          | vs => k (.val (.tup vs)) s1
        match d with
        | .out .normal a => fin a
        | .out .ret a => fin a
        | _ => .fail "jump"
  | .code c a, s, k => match c with
    | .skip | .label _ => k (.out .normal a) s
    | .region _ ops d => bif d then do
        let p ← drawRun P rec ops.toList a s
        bif Nat.ble p.2.next M then k (.out .normal p.1) p.2 else .fail "too many blocks"
      else opsX P both M eq rec X ops.toList ops.toList a s fun a1 s1 => k (.out .normal a1) s1
    | .seq x y => X (.code x a) s fun d s1 => match d with
      | .out .normal a1 => X (.code y a1) s1 k
      | d => k d s1
    | .cond c x y => do
      let b ← asBoolLit (← aev a c)
      X (.code (bif b then x else y) a) s k
    | .block id x => X (.code x a) s fun d s1 => match d with
      | .out (.exit id') a1 => k (.out (bif Nat.beq id' id then .normal else .exit id') a1) s1
      | d => k d s1
    | .loop x => X (.code x a) s fun d s1 => match d with
      | .out .normal a1 => X (.code (.loop x) a1) s1 k
      | d => k d s1
    | .exit id => k (.out (.exit id) a) s
    | .goto l => k (.out (.goto l) a) s
    | .ret => k (.out .ret a) s
    | .scope x => X (.inscope x x a) s k
    | _ => .fail "code"
  | .ask o vs, s, k => .fail "ask"
  | .inscope body c a, s, k => X (.code c a) s fun d s1 => match d with
    | .out (.goto l) a1 => match findLabel body l with
      | some rest => X (.inscope body rest a1) s1 k
      | none => k (.out (.goto l) a1) s1
    | d => k d s1

def runX (P : Program) (both : Bool) (M : Nat) (prims : Prims) {β : Type} (eq : β → β → Bool) (rec : Rec) (n : Nat) : XRec β :=
  Nat.rec (fun _ _ _ => .fail "fuel") (fun _ ih => stepX P both M prims eq rec ih) n

end
end Go.Am
