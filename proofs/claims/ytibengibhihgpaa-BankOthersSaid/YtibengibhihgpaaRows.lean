/-
  No cell of these rows narrows 'for every input' (looked for: loops, veiled, ifaces, maps, wideKeys, modest, calm, conditions, laid).
  DERIVED. THE GIVEN ROWS OF THIS SEAT. 14 by the template 'for every input the law returns true; each argument reads behind the call as it read before'; 0 by the template 'total and deterministic' (their statements: YtibengibhihgpaaTotals.lean).
  GIVEN WITH THE SEED: the statements are not yours to turn. If you find one false, say at which input.
  Laid BY PROGRAM, IN A SANDBOX (cutbox-rows.mjs): the forced cells as the released guide's own fill.sh prints them over the translation ee992276eca9af4e… (all of the seat's roots in one cut). By AI agents, Wed Nov 11 2026. No macro, syntax, notation, axiom, sorry.
-/
import Derived.Test.YtibengibhihgpaaChecked
import GoSem.Claim
import GoSem.ClaimJoined
import GoSem.ClaimMapViews
import Derived.JoinedTies
import Derived.KernelRfl
namespace Go.Proofs.Ytibengibhihgpaa
/- THE CELL 'sum', in the pinned program and in every row, IS THE sha256 OF THE DUMP (.gsa) THAT YtibengibhihgpaaProg.lean LOADS. Nothing in Lean hashes anything: it is a label: what it is worth is what the hold of that sum in a sandbox is worth. -/
noncomputable def Try.pinned : Pinned := { name := "ytibengibhihgpaa", sum := "ee992276eca9af4e713b601e5aa3dcbca8744c75b069a31fc645e78874297905", checked := Try.checked }
namespace Rows
def none {H : Type} : Left H := { results := [], args := [] }

/-- 'presidiolaw21.MarkOnce': WHATEVER THE INPUT: true; the input reads as it did. -/
def markOnceSpec : ChangeSpec := { name := "markOnce", fn := fun _ => fun
  | [d1, d2] => { results := [.lit (.bool true)], args := [d1, d2] }
  | _ => none }
def markOnceRow : OpenClaim := { program := "ytibengibhihgpaa", sum := "ee992276eca9af4e713b601e5aa3dcbca8744c75b069a31fc645e78874297905", func := "presidio/presidiolaw21.MarkOnce", spec := "markOnce", recurses := true, plainKeys := false, apart := false }
def MarkOnceSaid : Prop := markOnceRow.holds Try.pinned (OpenSpec.ofChange markOnceSpec)

/-- ITS FALSE NEIGHBOUR: 'it returns false'. Refute it at one input. -/
def markOnceWrong : ChangeSpec := { name := "markOnce", fn := fun _ => fun
  | [d1, d2] => { results := [.lit (.bool false)], args := [d1, d2] }
  | _ => none }
def MarkOnceWrongFalsely : Prop := markOnceRow.holds Try.pinned (OpenSpec.ofChange markOnceWrong)

/-- 'presidiolaw21.MarkForms': WHATEVER THE INPUT: true; the input reads as it did. -/
def markFormsSpec : ChangeSpec := { name := "markForms", fn := fun _ => fun
  | [d1, d2] => { results := [.lit (.bool true)], args := [d1, d2] }
  | _ => none }
def markFormsRow : OpenClaim := { program := "ytibengibhihgpaa", sum := "ee992276eca9af4e713b601e5aa3dcbca8744c75b069a31fc645e78874297905", func := "presidio/presidiolaw21.MarkForms", spec := "markForms", recurses := true, plainKeys := false, apart := false }
def MarkFormsSaid : Prop := markFormsRow.holds Try.pinned (OpenSpec.ofChange markFormsSpec)

/-- ITS FALSE NEIGHBOUR: 'it returns false'. Refute it at one input. -/
def markFormsWrong : ChangeSpec := { name := "markForms", fn := fun _ => fun
  | [d1, d2] => { results := [.lit (.bool false)], args := [d1, d2] }
  | _ => none }
def MarkFormsWrongFalsely : Prop := markFormsRow.holds Try.pinned (OpenSpec.ofChange markFormsWrong)

/-- 'presidiolaw11.BankOthers': WHATEVER THE INPUT: true; the input reads as it did. -/
def bankOthersSpec : ChangeSpec := { name := "bankOthers", fn := fun _ => fun
  | [d1, d2, d3] => { results := [.lit (.bool true)], args := [d1, d2, d3] }
  | _ => none }
def bankOthersRow : OpenClaim := { program := "ytibengibhihgpaa", sum := "ee992276eca9af4e713b601e5aa3dcbca8744c75b069a31fc645e78874297905", func := "presidio/presidiolaw11.BankOthers", spec := "bankOthers", unfollowed := true, recurses := true, plainKeys := false, apart := false }
def BankOthersSaid : Prop := bankOthersRow.holds Try.pinned (OpenSpec.ofChange bankOthersSpec)

/-- ITS FALSE NEIGHBOUR: 'it returns false'. Refute it at one input. -/
def bankOthersWrong : ChangeSpec := { name := "bankOthers", fn := fun _ => fun
  | [d1, d2, d3] => { results := [.lit (.bool false)], args := [d1, d2, d3] }
  | _ => none }
def BankOthersWrongFalsely : Prop := bankOthersRow.holds Try.pinned (OpenSpec.ofChange bankOthersWrong)

/-- 'presidiolaw10.ChainRound': WHATEVER THE INPUT: true; the input reads as it did. -/
def chainRoundSpec : ChangeSpec := { name := "chainRound", fn := fun _ => fun
  | [d] => { results := [.lit (.bool true)], args := [d] }
  | _ => none }
def chainRoundRow : OpenClaim := { program := "ytibengibhihgpaa", sum := "ee992276eca9af4e713b601e5aa3dcbca8744c75b069a31fc645e78874297905", func := "presidio/presidiolaw10.ChainRound", spec := "chainRound", unfollowed := true, recurses := true, plainKeys := false, apart := false }
def ChainRoundSaid : Prop := chainRoundRow.holds Try.pinned (OpenSpec.ofChange chainRoundSpec)

/-- ITS FALSE NEIGHBOUR: 'it returns false'. Refute it at one input. -/
def chainRoundWrong : ChangeSpec := { name := "chainRound", fn := fun _ => fun
  | [d] => { results := [.lit (.bool false)], args := [d] }
  | _ => none }
def ChainRoundWrongFalsely : Prop := chainRoundRow.holds Try.pinned (OpenSpec.ofChange chainRoundWrong)

/-- 'presidiolaw10.ChainRows': WHATEVER THE INPUT: true; the input reads as it did. -/
def chainRowsSpec : ChangeSpec := { name := "chainRows", fn := fun _ => fun
  | [d1, d2] => { results := [.lit (.bool true)], args := [d1, d2] }
  | _ => none }
def chainRowsRow : OpenClaim := { program := "ytibengibhihgpaa", sum := "ee992276eca9af4e713b601e5aa3dcbca8744c75b069a31fc645e78874297905", func := "presidio/presidiolaw10.ChainRows", spec := "chainRows", unfollowed := true, recurses := true, plainKeys := false, apart := false }
def ChainRowsSaid : Prop := chainRowsRow.holds Try.pinned (OpenSpec.ofChange chainRowsSpec)

/-- ITS FALSE NEIGHBOUR: 'it returns false'. Refute it at one input. -/
def chainRowsWrong : ChangeSpec := { name := "chainRows", fn := fun _ => fun
  | [d1, d2] => { results := [.lit (.bool false)], args := [d1, d2] }
  | _ => none }
def ChainRowsWrongFalsely : Prop := chainRowsRow.holds Try.pinned (OpenSpec.ofChange chainRowsWrong)

/-- 'presidiolaw17.BellOthers': WHATEVER THE INPUT: true; the input reads as it did. -/
def bellOthersSpec : ChangeSpec := { name := "bellOthers", fn := fun _ => fun
  | [d] => { results := [.lit (.bool true)], args := [d] }
  | _ => none }
def bellOthersRow : OpenClaim := { program := "ytibengibhihgpaa", sum := "ee992276eca9af4e713b601e5aa3dcbca8744c75b069a31fc645e78874297905", func := "presidio/presidiolaw17.BellOthers", spec := "bellOthers", recurses := true, plainKeys := false, apart := false }
def BellOthersSaid : Prop := bellOthersRow.holds Try.pinned (OpenSpec.ofChange bellOthersSpec)

/-- ITS FALSE NEIGHBOUR: 'it returns false'. Refute it at one input. -/
def bellOthersWrong : ChangeSpec := { name := "bellOthers", fn := fun _ => fun
  | [d] => { results := [.lit (.bool false)], args := [d] }
  | _ => none }
def BellOthersWrongFalsely : Prop := bellOthersRow.holds Try.pinned (OpenSpec.ofChange bellOthersWrong)

/-- 'presidiolaw17.BellForms': WHATEVER THE INPUT: true; the input reads as it did. -/
def bellFormsSpec : ChangeSpec := { name := "bellForms", fn := fun _ => fun
  | [] => { results := [.lit (.bool true)], args := [] }
  | _ => none }
def bellFormsRow : OpenClaim := { program := "ytibengibhihgpaa", sum := "ee992276eca9af4e713b601e5aa3dcbca8744c75b069a31fc645e78874297905", func := "presidio/presidiolaw17.BellForms", spec := "bellForms", recurses := true, plainKeys := false, apart := false }
def BellFormsSaid : Prop := bellFormsRow.holds Try.pinned (OpenSpec.ofChange bellFormsSpec)

/-- ITS FALSE NEIGHBOUR: 'it returns false'. Refute it at one input. -/
def bellFormsWrong : ChangeSpec := { name := "bellForms", fn := fun _ => fun
  | [] => { results := [.lit (.bool false)], args := [] }
  | _ => none }
def BellFormsWrongFalsely : Prop := bellFormsRow.holds Try.pinned (OpenSpec.ofChange bellFormsWrong)

/-- 'presidiolaw17.BellNews': WHATEVER THE INPUT: true; the input reads as it did. -/
def bellNewsSpec : ChangeSpec := { name := "bellNews", fn := fun _ => fun
  | [d] => { results := [.lit (.bool true)], args := [d] }
  | _ => none }
def bellNewsRow : OpenClaim := { program := "ytibengibhihgpaa", sum := "ee992276eca9af4e713b601e5aa3dcbca8744c75b069a31fc645e78874297905", func := "presidio/presidiolaw17.BellNews", spec := "bellNews", recurses := true, plainKeys := false, apart := false }
def BellNewsSaid : Prop := bellNewsRow.holds Try.pinned (OpenSpec.ofChange bellNewsSpec)

/-- ITS FALSE NEIGHBOUR: 'it returns false'. Refute it at one input. -/
def bellNewsWrong : ChangeSpec := { name := "bellNews", fn := fun _ => fun
  | [d] => { results := [.lit (.bool false)], args := [d] }
  | _ => none }
def BellNewsWrongFalsely : Prop := bellNewsRow.holds Try.pinned (OpenSpec.ofChange bellNewsWrong)

/-- 'presidiolaw6.SpanForms': WHATEVER THE INPUT: true; the input reads as it did. -/
def spanFormsSpec : ChangeSpec := { name := "spanForms", fn := fun _ => fun
  | [] => { results := [.lit (.bool true)], args := [] }
  | _ => none }
def spanFormsRow : OpenClaim := { program := "ytibengibhihgpaa", sum := "ee992276eca9af4e713b601e5aa3dcbca8744c75b069a31fc645e78874297905", func := "presidio/presidiolaw6.SpanForms", spec := "spanForms", unfollowed := true, recurses := true, plainKeys := false, apart := false }
def SpanFormsSaid : Prop := spanFormsRow.holds Try.pinned (OpenSpec.ofChange spanFormsSpec)

/-- ITS FALSE NEIGHBOUR: 'it returns false'. Refute it at one input. -/
def spanFormsWrong : ChangeSpec := { name := "spanForms", fn := fun _ => fun
  | [] => { results := [.lit (.bool false)], args := [] }
  | _ => none }
def SpanFormsWrongFalsely : Prop := spanFormsRow.holds Try.pinned (OpenSpec.ofChange spanFormsWrong)

/-- 'presidiolaw22.HoldForms': WHATEVER THE INPUT: true; the input reads as it did. -/
def holdFormsSpec : ChangeSpec := { name := "holdForms", fn := fun _ => fun
  | [] => { results := [.lit (.bool true)], args := [] }
  | _ => none }
def holdFormsRow : OpenClaim := { program := "ytibengibhihgpaa", sum := "ee992276eca9af4e713b601e5aa3dcbca8744c75b069a31fc645e78874297905", func := "presidio/presidiolaw22.HoldForms", spec := "holdForms", unfollowed := true, recurses := true, plainKeys := false, apart := false }
def HoldFormsSaid : Prop := holdFormsRow.holds Try.pinned (OpenSpec.ofChange holdFormsSpec)

/-- ITS FALSE NEIGHBOUR: 'it returns false'. Refute it at one input. -/
def holdFormsWrong : ChangeSpec := { name := "holdForms", fn := fun _ => fun
  | [] => { results := [.lit (.bool false)], args := [] }
  | _ => none }
def HoldFormsWrongFalsely : Prop := holdFormsRow.holds Try.pinned (OpenSpec.ofChange holdFormsWrong)

/-- 'presidiolaw26.SeatForms': WHATEVER THE INPUT: true; the input reads as it did. -/
def seatFormsSpec : ChangeSpec := { name := "seatForms", fn := fun _ => fun
  | [] => { results := [.lit (.bool true)], args := [] }
  | _ => none }
def seatFormsRow : OpenClaim := { program := "ytibengibhihgpaa", sum := "ee992276eca9af4e713b601e5aa3dcbca8744c75b069a31fc645e78874297905", func := "presidio/presidiolaw26.SeatForms", spec := "seatForms", unfollowed := true, recurses := true, plainKeys := false, apart := false }
def SeatFormsSaid : Prop := seatFormsRow.holds Try.pinned (OpenSpec.ofChange seatFormsSpec)

/-- ITS FALSE NEIGHBOUR: 'it returns false'. Refute it at one input. -/
def seatFormsWrong : ChangeSpec := { name := "seatForms", fn := fun _ => fun
  | [] => { results := [.lit (.bool false)], args := [] }
  | _ => none }
def SeatFormsWrongFalsely : Prop := seatFormsRow.holds Try.pinned (OpenSpec.ofChange seatFormsWrong)

/-- 'presidiolaw26.SeatOne': WHATEVER THE INPUT: true; the input reads as it did. -/
def seatOneSpec : ChangeSpec := { name := "seatOne", fn := fun _ => fun
  | [d1, d2] => { results := [.lit (.bool true)], args := [d1, d2] }
  | _ => none }
def seatOneRow : OpenClaim := { program := "ytibengibhihgpaa", sum := "ee992276eca9af4e713b601e5aa3dcbca8744c75b069a31fc645e78874297905", func := "presidio/presidiolaw26.SeatOne", spec := "seatOne", unfollowed := true, recurses := true, plainKeys := false, apart := false }
def SeatOneSaid : Prop := seatOneRow.holds Try.pinned (OpenSpec.ofChange seatOneSpec)

/-- ITS FALSE NEIGHBOUR: 'it returns false'. Refute it at one input. -/
def seatOneWrong : ChangeSpec := { name := "seatOne", fn := fun _ => fun
  | [d1, d2] => { results := [.lit (.bool false)], args := [d1, d2] }
  | _ => none }
def SeatOneWrongFalsely : Prop := seatOneRow.holds Try.pinned (OpenSpec.ofChange seatOneWrong)

/-- 'presidiolaw26.SeatKinds': WHATEVER THE INPUT: true; the input reads as it did. -/
def seatKindsSpec : ChangeSpec := { name := "seatKinds", fn := fun _ => fun
  | [d1, d2] => { results := [.lit (.bool true)], args := [d1, d2] }
  | _ => none }
def seatKindsRow : OpenClaim := { program := "ytibengibhihgpaa", sum := "ee992276eca9af4e713b601e5aa3dcbca8744c75b069a31fc645e78874297905", func := "presidio/presidiolaw26.SeatKinds", spec := "seatKinds", unfollowed := true, recurses := true, plainKeys := false, apart := false }
def SeatKindsSaid : Prop := seatKindsRow.holds Try.pinned (OpenSpec.ofChange seatKindsSpec)

/-- ITS FALSE NEIGHBOUR: 'it returns false'. Refute it at one input. -/
def seatKindsWrong : ChangeSpec := { name := "seatKinds", fn := fun _ => fun
  | [d1, d2] => { results := [.lit (.bool false)], args := [d1, d2] }
  | _ => none }
def SeatKindsWrongFalsely : Prop := seatKindsRow.holds Try.pinned (OpenSpec.ofChange seatKindsWrong)

/-- 'presidiolaw5.GraftNone': WHATEVER THE INPUT: true; the input reads as it did. -/
def graftNoneSpec : ChangeSpec := { name := "graftNone", fn := fun _ => fun
  | [d] => { results := [.lit (.bool true)], args := [d] }
  | _ => none }
def graftNoneRow : OpenClaim := { program := "ytibengibhihgpaa", sum := "ee992276eca9af4e713b601e5aa3dcbca8744c75b069a31fc645e78874297905", func := "presidio/presidiolaw5.GraftNone", spec := "graftNone", recurses := true, plainKeys := false, apart := false }
def GraftNoneSaid : Prop := graftNoneRow.holds Try.pinned (OpenSpec.ofChange graftNoneSpec)

/-- ITS FALSE NEIGHBOUR: 'it returns false'. Refute it at one input. -/
def graftNoneWrong : ChangeSpec := { name := "graftNone", fn := fun _ => fun
  | [d] => { results := [.lit (.bool false)], args := [d] }
  | _ => none }
def GraftNoneWrongFalsely : Prop := graftNoneRow.holds Try.pinned (OpenSpec.ofChange graftNoneWrong)

/- THE SECOND FORM. 'bulk': how many values and letters a reading holds, each counted each time it is reached (what is shared counts as often as it is met; a slice's spare places count too). A statement '..UptoSaid' is the law's where the arguments, and the package variables that the reading takes, are together of bulk at most 1048576: NARROWER than '..Said'. Prove '..Said' where nothing that the law and all that it calls make is longer than what came in: it says more and counts as full. Else prove '..UptoSaid'. A law counts once. -/
mutual
def uptoBulk {H : Type} : DataW H → Nat
  | .lit (.string bytes) => bytes.length + 1
  | .lit _ => 1
  | .nil => 1
  | .ptr d => uptoBulk d + 1
  | .slice elems spare => uptoBulkAll elems + uptoBulkAll spare + 1
  | .agg parts => uptoBulkAll parts + 1
  | .iface _ d => uptoBulk d + 1
  | .map entries => uptoBulkEntries entries + 1
  | .held _ => 1
def uptoBulkAll {H : Type} : List (DataW H) → Nat
  | [] => 0
  | d :: r => uptoBulk d + uptoBulkAll r
def uptoBulkEntries {H : Type} : List (Lit × DataW H) → Nat
  | [] => 0
  | x :: r => uptoBulkEntry x + uptoBulkEntries r
def uptoBulkEntry {H : Type} : Lit × DataW H → Nat
  | (.string bytes, d) => bytes.length + uptoBulk d + 1
  | (_, d) => uptoBulk d + 1
 end
def uptoSmall : (H : Type) → List (DataW H) → Bool := fun _ ds => decide (uptoBulkAll ds ≤ 1048576)
def OpenSpec.upto (s : _root_.Go.ChangeSpec) : _root_.Go.OpenSpec := { _root_.Go.OpenSpec.ofChange s with cond := some uptoSmall }

/-- 'presidiolaw21.MarkOnce', WHERE WHAT IT READS IS OF BULK AT MOST 1048576: true; the input reads as it did. -/
def markOnceUptoRow : OpenClaim := { program := "ytibengibhihgpaa", sum := "ee992276eca9af4e713b601e5aa3dcbca8744c75b069a31fc645e78874297905", func := "presidio/presidiolaw21.MarkOnce", spec := "markOnce", recurses := true, plainKeys := false, apart := false, narrowed := true }
def MarkOnceUptoSaid : Prop := markOnceUptoRow.holds Try.pinned (OpenSpec.upto markOnceSpec)

/-- 'presidiolaw21.MarkForms', WHERE WHAT IT READS IS OF BULK AT MOST 1048576: true; the input reads as it did. -/
def markFormsUptoRow : OpenClaim := { program := "ytibengibhihgpaa", sum := "ee992276eca9af4e713b601e5aa3dcbca8744c75b069a31fc645e78874297905", func := "presidio/presidiolaw21.MarkForms", spec := "markForms", recurses := true, plainKeys := false, apart := false, narrowed := true }
def MarkFormsUptoSaid : Prop := markFormsUptoRow.holds Try.pinned (OpenSpec.upto markFormsSpec)

/-- 'presidiolaw11.BankOthers', WHERE WHAT IT READS IS OF BULK AT MOST 1048576: true; the input reads as it did. -/
def bankOthersUptoRow : OpenClaim := { program := "ytibengibhihgpaa", sum := "ee992276eca9af4e713b601e5aa3dcbca8744c75b069a31fc645e78874297905", func := "presidio/presidiolaw11.BankOthers", spec := "bankOthers", unfollowed := true, recurses := true, plainKeys := false, apart := false, narrowed := true }
def BankOthersUptoSaid : Prop := bankOthersUptoRow.holds Try.pinned (OpenSpec.upto bankOthersSpec)

/-- 'presidiolaw10.ChainRound', WHERE WHAT IT READS IS OF BULK AT MOST 1048576: true; the input reads as it did. -/
def chainRoundUptoRow : OpenClaim := { program := "ytibengibhihgpaa", sum := "ee992276eca9af4e713b601e5aa3dcbca8744c75b069a31fc645e78874297905", func := "presidio/presidiolaw10.ChainRound", spec := "chainRound", unfollowed := true, recurses := true, plainKeys := false, apart := false, narrowed := true }
def ChainRoundUptoSaid : Prop := chainRoundUptoRow.holds Try.pinned (OpenSpec.upto chainRoundSpec)

/-- 'presidiolaw10.ChainRows', WHERE WHAT IT READS IS OF BULK AT MOST 1048576: true; the input reads as it did. -/
def chainRowsUptoRow : OpenClaim := { program := "ytibengibhihgpaa", sum := "ee992276eca9af4e713b601e5aa3dcbca8744c75b069a31fc645e78874297905", func := "presidio/presidiolaw10.ChainRows", spec := "chainRows", unfollowed := true, recurses := true, plainKeys := false, apart := false, narrowed := true }
def ChainRowsUptoSaid : Prop := chainRowsUptoRow.holds Try.pinned (OpenSpec.upto chainRowsSpec)

/-- 'presidiolaw17.BellOthers', WHERE WHAT IT READS IS OF BULK AT MOST 1048576: true; the input reads as it did. -/
def bellOthersUptoRow : OpenClaim := { program := "ytibengibhihgpaa", sum := "ee992276eca9af4e713b601e5aa3dcbca8744c75b069a31fc645e78874297905", func := "presidio/presidiolaw17.BellOthers", spec := "bellOthers", recurses := true, plainKeys := false, apart := false, narrowed := true }
def BellOthersUptoSaid : Prop := bellOthersUptoRow.holds Try.pinned (OpenSpec.upto bellOthersSpec)

/-- 'presidiolaw17.BellForms', WHERE WHAT IT READS IS OF BULK AT MOST 1048576: true; the input reads as it did. -/
def bellFormsUptoRow : OpenClaim := { program := "ytibengibhihgpaa", sum := "ee992276eca9af4e713b601e5aa3dcbca8744c75b069a31fc645e78874297905", func := "presidio/presidiolaw17.BellForms", spec := "bellForms", recurses := true, plainKeys := false, apart := false, narrowed := true }
def BellFormsUptoSaid : Prop := bellFormsUptoRow.holds Try.pinned (OpenSpec.upto bellFormsSpec)

/-- 'presidiolaw17.BellNews', WHERE WHAT IT READS IS OF BULK AT MOST 1048576: true; the input reads as it did. -/
def bellNewsUptoRow : OpenClaim := { program := "ytibengibhihgpaa", sum := "ee992276eca9af4e713b601e5aa3dcbca8744c75b069a31fc645e78874297905", func := "presidio/presidiolaw17.BellNews", spec := "bellNews", recurses := true, plainKeys := false, apart := false, narrowed := true }
def BellNewsUptoSaid : Prop := bellNewsUptoRow.holds Try.pinned (OpenSpec.upto bellNewsSpec)

/-- 'presidiolaw6.SpanForms', WHERE WHAT IT READS IS OF BULK AT MOST 1048576: true; the input reads as it did. -/
def spanFormsUptoRow : OpenClaim := { program := "ytibengibhihgpaa", sum := "ee992276eca9af4e713b601e5aa3dcbca8744c75b069a31fc645e78874297905", func := "presidio/presidiolaw6.SpanForms", spec := "spanForms", unfollowed := true, recurses := true, plainKeys := false, apart := false, narrowed := true }
def SpanFormsUptoSaid : Prop := spanFormsUptoRow.holds Try.pinned (OpenSpec.upto spanFormsSpec)

/-- 'presidiolaw22.HoldForms', WHERE WHAT IT READS IS OF BULK AT MOST 1048576: true; the input reads as it did. -/
def holdFormsUptoRow : OpenClaim := { program := "ytibengibhihgpaa", sum := "ee992276eca9af4e713b601e5aa3dcbca8744c75b069a31fc645e78874297905", func := "presidio/presidiolaw22.HoldForms", spec := "holdForms", unfollowed := true, recurses := true, plainKeys := false, apart := false, narrowed := true }
def HoldFormsUptoSaid : Prop := holdFormsUptoRow.holds Try.pinned (OpenSpec.upto holdFormsSpec)

/-- 'presidiolaw26.SeatForms', WHERE WHAT IT READS IS OF BULK AT MOST 1048576: true; the input reads as it did. -/
def seatFormsUptoRow : OpenClaim := { program := "ytibengibhihgpaa", sum := "ee992276eca9af4e713b601e5aa3dcbca8744c75b069a31fc645e78874297905", func := "presidio/presidiolaw26.SeatForms", spec := "seatForms", unfollowed := true, recurses := true, plainKeys := false, apart := false, narrowed := true }
def SeatFormsUptoSaid : Prop := seatFormsUptoRow.holds Try.pinned (OpenSpec.upto seatFormsSpec)

/-- 'presidiolaw26.SeatOne', WHERE WHAT IT READS IS OF BULK AT MOST 1048576: true; the input reads as it did. -/
def seatOneUptoRow : OpenClaim := { program := "ytibengibhihgpaa", sum := "ee992276eca9af4e713b601e5aa3dcbca8744c75b069a31fc645e78874297905", func := "presidio/presidiolaw26.SeatOne", spec := "seatOne", unfollowed := true, recurses := true, plainKeys := false, apart := false, narrowed := true }
def SeatOneUptoSaid : Prop := seatOneUptoRow.holds Try.pinned (OpenSpec.upto seatOneSpec)

/-- 'presidiolaw26.SeatKinds', WHERE WHAT IT READS IS OF BULK AT MOST 1048576: true; the input reads as it did. -/
def seatKindsUptoRow : OpenClaim := { program := "ytibengibhihgpaa", sum := "ee992276eca9af4e713b601e5aa3dcbca8744c75b069a31fc645e78874297905", func := "presidio/presidiolaw26.SeatKinds", spec := "seatKinds", unfollowed := true, recurses := true, plainKeys := false, apart := false, narrowed := true }
def SeatKindsUptoSaid : Prop := seatKindsUptoRow.holds Try.pinned (OpenSpec.upto seatKindsSpec)

/-- 'presidiolaw5.GraftNone', WHERE WHAT IT READS IS OF BULK AT MOST 1048576: true; the input reads as it did. -/
def graftNoneUptoRow : OpenClaim := { program := "ytibengibhihgpaa", sum := "ee992276eca9af4e713b601e5aa3dcbca8744c75b069a31fc645e78874297905", func := "presidio/presidiolaw5.GraftNone", spec := "graftNone", recurses := true, plainKeys := false, apart := false, narrowed := true }
def GraftNoneUptoSaid : Prop := graftNoneUptoRow.holds Try.pinned (OpenSpec.upto graftNoneSpec)

end Rows
end Go.Proofs.Ytibengibhihgpaa
