/-
  No cell of these rows narrows 'for every input' (looked for: loops, veiled, ifaces, maps, wideKeys, modest, calm, conditions, laid).
  DERIVED. THE GIVEN ROWS OF THIS SEAT. 7 by the template 'for every input the law returns true; each argument reads behind the call as it read before'; 0 by the template 'total and deterministic' (their statements: YthhfokbfdeghpaaTotals.lean).
  GIVEN WITH THE SEED: the statements are not yours to turn. If you find one false, say at which input.
  Laid BY PROGRAM, IN A SANDBOX (cutbox-rows.mjs): the forced cells as the released guide's own fill.sh prints them over the translation 05947c17b62b78ee… (all of the seat's roots in one cut). By AI agents, Wed Nov 11 2026. No macro, syntax, notation, axiom, sorry.
-/
import Derived.Test.YthhfokbfdeghpaaChecked
import GoSem.Claim
import GoSem.ClaimJoined
import GoSem.ClaimMapViews
import Derived.JoinedTies
import Derived.KernelRfl
namespace Go.Proofs.Ythhfokbfdeghpaa
/- THE CELL 'sum', in the pinned program and in every row, IS THE sha256 OF THE DUMP (.gsa) THAT YthhfokbfdeghpaaProg.lean LOADS. Nothing in Lean hashes anything: it is a label: what it is worth is what the hold of that sum in a sandbox is worth. -/
noncomputable def Try.pinned : Pinned := { name := "ythhfokbfdeghpaa", sum := "05947c17b62b78eee7ffc7ca81c34003daf8b0070a34470fcecefcbe569115c7", checked := Try.checked }
namespace Rows
def none {H : Type} : Left H := { results := [], args := [] }

/-- 'presidiolaw6.SpanAll': WHATEVER THE INPUT: true; the input reads as it did. -/
def spanAllSpec : ChangeSpec := { name := "spanAll", fn := fun _ => fun
  | [d1, d2, d3] => { results := [.lit (.bool true)], args := [d1, d2, d3] }
  | _ => none }
def spanAllRow : OpenClaim := { program := "ythhfokbfdeghpaa", sum := "05947c17b62b78eee7ffc7ca81c34003daf8b0070a34470fcecefcbe569115c7", func := "presidio/presidiolaw6.SpanAll", spec := "spanAll", unfollowed := true, recurses := true, plainKeys := false, apart := false }
def SpanAllSaid : Prop := spanAllRow.holds Try.pinned (OpenSpec.ofChange spanAllSpec)

/-- ITS FALSE NEIGHBOUR: 'it returns false'. Refute it at one input. -/
def spanAllWrong : ChangeSpec := { name := "spanAll", fn := fun _ => fun
  | [d1, d2, d3] => { results := [.lit (.bool false)], args := [d1, d2, d3] }
  | _ => none }
def SpanAllWrongFalsely : Prop := spanAllRow.holds Try.pinned (OpenSpec.ofChange spanAllWrong)

/-- 'presidiolaw6.SpanBack': WHATEVER THE INPUT: true; the input reads as it did. -/
def spanBackSpec : ChangeSpec := { name := "spanBack", fn := fun _ => fun
  | [d] => { results := [.lit (.bool true)], args := [d] }
  | _ => none }
def spanBackRow : OpenClaim := { program := "ythhfokbfdeghpaa", sum := "05947c17b62b78eee7ffc7ca81c34003daf8b0070a34470fcecefcbe569115c7", func := "presidio/presidiolaw6.SpanBack", spec := "spanBack", unfollowed := true, recurses := true, plainKeys := false, apart := false }
def SpanBackSaid : Prop := spanBackRow.holds Try.pinned (OpenSpec.ofChange spanBackSpec)

/-- ITS FALSE NEIGHBOUR: 'it returns false'. Refute it at one input. -/
def spanBackWrong : ChangeSpec := { name := "spanBack", fn := fun _ => fun
  | [d] => { results := [.lit (.bool false)], args := [d] }
  | _ => none }
def SpanBackWrongFalsely : Prop := spanBackRow.holds Try.pinned (OpenSpec.ofChange spanBackWrong)

/-- 'presidiolaw22.HoldRound': WHATEVER THE INPUT: true; the input reads as it did. -/
def holdRoundSpec : ChangeSpec := { name := "holdRound", fn := fun _ => fun
  | [d1, d2, d3, d4] => { results := [.lit (.bool true)], args := [d1, d2, d3, d4] }
  | _ => none }
def holdRoundRow : OpenClaim := { program := "ythhfokbfdeghpaa", sum := "05947c17b62b78eee7ffc7ca81c34003daf8b0070a34470fcecefcbe569115c7", func := "presidio/presidiolaw22.HoldRound", spec := "holdRound", unfollowed := true, recurses := true, plainKeys := false, apart := false }
def HoldRoundSaid : Prop := holdRoundRow.holds Try.pinned (OpenSpec.ofChange holdRoundSpec)

/-- ITS FALSE NEIGHBOUR: 'it returns false'. Refute it at one input. -/
def holdRoundWrong : ChangeSpec := { name := "holdRound", fn := fun _ => fun
  | [d1, d2, d3, d4] => { results := [.lit (.bool false)], args := [d1, d2, d3, d4] }
  | _ => none }
def HoldRoundWrongFalsely : Prop := holdRoundRow.holds Try.pinned (OpenSpec.ofChange holdRoundWrong)

/-- 'presidiolaw23.PactPaths': WHATEVER THE INPUT: true; the input reads as it did. -/
def pactPathsSpec : ChangeSpec := { name := "pactPaths", fn := fun _ => fun
  | [d1, d2] => { results := [.lit (.bool true)], args := [d1, d2] }
  | _ => none }
def pactPathsRow : OpenClaim := { program := "ythhfokbfdeghpaa", sum := "05947c17b62b78eee7ffc7ca81c34003daf8b0070a34470fcecefcbe569115c7", func := "presidio/presidiolaw23.PactPaths", spec := "pactPaths", unfollowed := true, recurses := true, plainKeys := false, apart := false }
def PactPathsSaid : Prop := pactPathsRow.holds Try.pinned (OpenSpec.ofChange pactPathsSpec)

/-- ITS FALSE NEIGHBOUR: 'it returns false'. Refute it at one input. -/
def pactPathsWrong : ChangeSpec := { name := "pactPaths", fn := fun _ => fun
  | [d1, d2] => { results := [.lit (.bool false)], args := [d1, d2] }
  | _ => none }
def PactPathsWrongFalsely : Prop := pactPathsRow.holds Try.pinned (OpenSpec.ofChange pactPathsWrong)

/-- 'presidiolaw23.PactDrops': WHATEVER THE INPUT: true; the input reads as it did. -/
def pactDropsSpec : ChangeSpec := { name := "pactDrops", fn := fun _ => fun
  | [d] => { results := [.lit (.bool true)], args := [d] }
  | _ => none }
def pactDropsRow : OpenClaim := { program := "ythhfokbfdeghpaa", sum := "05947c17b62b78eee7ffc7ca81c34003daf8b0070a34470fcecefcbe569115c7", func := "presidio/presidiolaw23.PactDrops", spec := "pactDrops", unfollowed := true, recurses := true, plainKeys := false, apart := false }
def PactDropsSaid : Prop := pactDropsRow.holds Try.pinned (OpenSpec.ofChange pactDropsSpec)

/-- ITS FALSE NEIGHBOUR: 'it returns false'. Refute it at one input. -/
def pactDropsWrong : ChangeSpec := { name := "pactDrops", fn := fun _ => fun
  | [d] => { results := [.lit (.bool false)], args := [d] }
  | _ => none }
def PactDropsWrongFalsely : Prop := pactDropsRow.holds Try.pinned (OpenSpec.ofChange pactDropsWrong)

/-- 'presidiolaw23.PactTakers': WHATEVER THE INPUT: true; the input reads as it did. -/
def pactTakersSpec : ChangeSpec := { name := "pactTakers", fn := fun _ => fun
  | [d1, d2, d3] => { results := [.lit (.bool true)], args := [d1, d2, d3] }
  | _ => none }
def pactTakersRow : OpenClaim := { program := "ythhfokbfdeghpaa", sum := "05947c17b62b78eee7ffc7ca81c34003daf8b0070a34470fcecefcbe569115c7", func := "presidio/presidiolaw23.PactTakers", spec := "pactTakers", unfollowed := true, recurses := true, plainKeys := false, apart := false }
def PactTakersSaid : Prop := pactTakersRow.holds Try.pinned (OpenSpec.ofChange pactTakersSpec)

/-- ITS FALSE NEIGHBOUR: 'it returns false'. Refute it at one input. -/
def pactTakersWrong : ChangeSpec := { name := "pactTakers", fn := fun _ => fun
  | [d1, d2, d3] => { results := [.lit (.bool false)], args := [d1, d2, d3] }
  | _ => none }
def PactTakersWrongFalsely : Prop := pactTakersRow.holds Try.pinned (OpenSpec.ofChange pactTakersWrong)

/-- 'presidiolaw26.SeatOne': WHATEVER THE INPUT: true; the input reads as it did. -/
def seatOneSpec : ChangeSpec := { name := "seatOne", fn := fun _ => fun
  | [d1, d2] => { results := [.lit (.bool true)], args := [d1, d2] }
  | _ => none }
def seatOneRow : OpenClaim := { program := "ythhfokbfdeghpaa", sum := "05947c17b62b78eee7ffc7ca81c34003daf8b0070a34470fcecefcbe569115c7", func := "presidio/presidiolaw26.SeatOne", spec := "seatOne", unfollowed := true, recurses := true, plainKeys := false, apart := false }
def SeatOneSaid : Prop := seatOneRow.holds Try.pinned (OpenSpec.ofChange seatOneSpec)

/-- ITS FALSE NEIGHBOUR: 'it returns false'. Refute it at one input. -/
def seatOneWrong : ChangeSpec := { name := "seatOne", fn := fun _ => fun
  | [d1, d2] => { results := [.lit (.bool false)], args := [d1, d2] }
  | _ => none }
def SeatOneWrongFalsely : Prop := seatOneRow.holds Try.pinned (OpenSpec.ofChange seatOneWrong)

/- THE SECOND FORM. 'bulk': how many values and letters a reading holds, each counted each time it is reached (what is shared counts as often as it is met; a slice's spare places count too). A statement '..UptoSaid' is the law's where the arguments, and the package variables that the reading takes, are together of bulk at most 1048576: NARROWER than '..Said'. Prove '..Said' where nothing that the law and all that it calls make is longer than what came in: it says more and counts as full. Else prove '..UptoSaid'. A law counts once. -/
mutual
def uptoBulk {H : Type} : DataW H → Nat
  | .lit (.string bytes) => bytes.length + 1
  | .lit _ => 1
  | .nil => 1
  | .ptr d => uptoBulk d + 1
  | .slice elems spare => uptoBulkAll elems + uptoBulkAll spare + 1
  | .agg parts => uptoBulkAll parts + 1
  | .iface _ d => uptoBulk d + 1
  | .map entries => uptoBulkEntries entries + 1
  | .held _ => 1
def uptoBulkAll {H : Type} : List (DataW H) → Nat
  | [] => 0
  | d :: r => uptoBulk d + uptoBulkAll r
def uptoBulkEntries {H : Type} : List (Lit × DataW H) → Nat
  | [] => 0
  | x :: r => uptoBulkEntry x + uptoBulkEntries r
def uptoBulkEntry {H : Type} : Lit × DataW H → Nat
  | (.string bytes, d) => bytes.length + uptoBulk d + 1
  | (_, d) => uptoBulk d + 1
 end
def uptoSmall : (H : Type) → List (DataW H) → Bool := fun _ ds => decide (uptoBulkAll ds ≤ 1048576)
def OpenSpec.upto (s : _root_.Go.ChangeSpec) : _root_.Go.OpenSpec := { _root_.Go.OpenSpec.ofChange s with cond := some uptoSmall }

/-- 'presidiolaw6.SpanAll', WHERE WHAT IT READS IS OF BULK AT MOST 1048576: true; the input reads as it did. -/
def spanAllUptoRow : OpenClaim := { program := "ythhfokbfdeghpaa", sum := "05947c17b62b78eee7ffc7ca81c34003daf8b0070a34470fcecefcbe569115c7", func := "presidio/presidiolaw6.SpanAll", spec := "spanAll", unfollowed := true, recurses := true, plainKeys := false, apart := false, narrowed := true }
def SpanAllUptoSaid : Prop := spanAllUptoRow.holds Try.pinned (OpenSpec.upto spanAllSpec)

/-- 'presidiolaw6.SpanBack', WHERE WHAT IT READS IS OF BULK AT MOST 1048576: true; the input reads as it did. -/
def spanBackUptoRow : OpenClaim := { program := "ythhfokbfdeghpaa", sum := "05947c17b62b78eee7ffc7ca81c34003daf8b0070a34470fcecefcbe569115c7", func := "presidio/presidiolaw6.SpanBack", spec := "spanBack", unfollowed := true, recurses := true, plainKeys := false, apart := false, narrowed := true }
def SpanBackUptoSaid : Prop := spanBackUptoRow.holds Try.pinned (OpenSpec.upto spanBackSpec)

/-- 'presidiolaw22.HoldRound', WHERE WHAT IT READS IS OF BULK AT MOST 1048576: true; the input reads as it did. -/
def holdRoundUptoRow : OpenClaim := { program := "ythhfokbfdeghpaa", sum := "05947c17b62b78eee7ffc7ca81c34003daf8b0070a34470fcecefcbe569115c7", func := "presidio/presidiolaw22.HoldRound", spec := "holdRound", unfollowed := true, recurses := true, plainKeys := false, apart := false, narrowed := true }
def HoldRoundUptoSaid : Prop := holdRoundUptoRow.holds Try.pinned (OpenSpec.upto holdRoundSpec)

/-- 'presidiolaw23.PactPaths', WHERE WHAT IT READS IS OF BULK AT MOST 1048576: true; the input reads as it did. -/
def pactPathsUptoRow : OpenClaim := { program := "ythhfokbfdeghpaa", sum := "05947c17b62b78eee7ffc7ca81c34003daf8b0070a34470fcecefcbe569115c7", func := "presidio/presidiolaw23.PactPaths", spec := "pactPaths", unfollowed := true, recurses := true, plainKeys := false, apart := false, narrowed := true }
def PactPathsUptoSaid : Prop := pactPathsUptoRow.holds Try.pinned (OpenSpec.upto pactPathsSpec)

/-- 'presidiolaw23.PactDrops', WHERE WHAT IT READS IS OF BULK AT MOST 1048576: true; the input reads as it did. -/
def pactDropsUptoRow : OpenClaim := { program := "ythhfokbfdeghpaa", sum := "05947c17b62b78eee7ffc7ca81c34003daf8b0070a34470fcecefcbe569115c7", func := "presidio/presidiolaw23.PactDrops", spec := "pactDrops", unfollowed := true, recurses := true, plainKeys := false, apart := false, narrowed := true }
def PactDropsUptoSaid : Prop := pactDropsUptoRow.holds Try.pinned (OpenSpec.upto pactDropsSpec)

/-- 'presidiolaw23.PactTakers', WHERE WHAT IT READS IS OF BULK AT MOST 1048576: true; the input reads as it did. -/
def pactTakersUptoRow : OpenClaim := { program := "ythhfokbfdeghpaa", sum := "05947c17b62b78eee7ffc7ca81c34003daf8b0070a34470fcecefcbe569115c7", func := "presidio/presidiolaw23.PactTakers", spec := "pactTakers", unfollowed := true, recurses := true, plainKeys := false, apart := false, narrowed := true }
def PactTakersUptoSaid : Prop := pactTakersUptoRow.holds Try.pinned (OpenSpec.upto pactTakersSpec)

/-- 'presidiolaw26.SeatOne', WHERE WHAT IT READS IS OF BULK AT MOST 1048576: true; the input reads as it did. -/
def seatOneUptoRow : OpenClaim := { program := "ythhfokbfdeghpaa", sum := "05947c17b62b78eee7ffc7ca81c34003daf8b0070a34470fcecefcbe569115c7", func := "presidio/presidiolaw26.SeatOne", spec := "seatOne", unfollowed := true, recurses := true, plainKeys := false, apart := false, narrowed := true }
def SeatOneUptoSaid : Prop := seatOneUptoRow.holds Try.pinned (OpenSpec.upto seatOneSpec)

end Rows
end Go.Proofs.Ythhfokbfdeghpaa
