/-
  No cell of these rows narrows 'for every input' (looked for: loops, veiled, ifaces, maps, wideKeys, modest, calm, conditions, laid).
  DERIVED. THE GIVEN ROWS OF THIS SEAT. 5 by the template 'for every input the law returns true; each argument reads behind the call as it read before'; 0 by the template 'total and deterministic' (their statements: YtcoedmiichppdaaTotals.lean).
  GIVEN WITH THE SEED: the statements are not yours to turn. If you find one false, say at which input.
  Laid BY PROGRAM, IN A SANDBOX (cutbox-rows.mjs): the forced cells as the released guide's own fill.sh prints them over the translation 9ca0c18fa08fdfe2… (all of the seat's roots in one cut). By AI agents, Wed Nov 11 2026. No macro, syntax, notation, axiom, sorry.
-/
import Derived.Test.YtcoedmiichppdaaChecked
import GoSem.Claim
import GoSem.ClaimJoined
import GoSem.ClaimMapViews
import Derived.JoinedTies
import Derived.KernelRfl
namespace Go.Proofs.Ytcoedmiichppdaa
/- THE CELL 'sum', in the pinned program and in every row, IS THE sha256 OF THE DUMP (.gsa) THAT YtcoedmiichppdaaProg.lean LOADS. Nothing in Lean hashes anything: it is a label: what it is worth is what the hold of that sum in a sandbox is worth. -/
noncomputable def Try.pinned : Pinned := { name := "ytcoedmiichppdaa", sum := "9ca0c18fa08fdfe2eba2f8c1111fa8a3f59d7603aba0f9a85526165cf703d927", checked := Try.checked }
namespace Rows
def none {H : Type} : Left H := { results := [], args := [] }

/-- 'presidiolaw22.HoldAll': WHATEVER THE INPUT: true; the input reads as it did. -/
def holdAllSpec : ChangeSpec := { name := "holdAll", fn := fun _ => fun
  | [d1, d2, d3] => { results := [.lit (.bool true)], args := [d1, d2, d3] }
  | _ => none }
def holdAllRow : OpenClaim := { program := "ytcoedmiichppdaa", sum := "9ca0c18fa08fdfe2eba2f8c1111fa8a3f59d7603aba0f9a85526165cf703d927", func := "presidio/presidiolaw22.HoldAll", spec := "holdAll", unfollowed := true, recurses := true, apart := false }
def HoldAllSaid : Prop := holdAllRow.holds Try.pinned (OpenSpec.ofChange holdAllSpec)

/-- ITS FALSE NEIGHBOUR: 'it returns false'. Refute it at one input. -/
def holdAllWrong : ChangeSpec := { name := "holdAll", fn := fun _ => fun
  | [d1, d2, d3] => { results := [.lit (.bool false)], args := [d1, d2, d3] }
  | _ => none }
def HoldAllWrongFalsely : Prop := holdAllRow.holds Try.pinned (OpenSpec.ofChange holdAllWrong)

/-- 'presidiolaw23.PactPaths': WHATEVER THE INPUT: true; the input reads as it did. -/
def pactPathsSpec : ChangeSpec := { name := "pactPaths", fn := fun _ => fun
  | [d1, d2] => { results := [.lit (.bool true)], args := [d1, d2] }
  | _ => none }
def pactPathsRow : OpenClaim := { program := "ytcoedmiichppdaa", sum := "9ca0c18fa08fdfe2eba2f8c1111fa8a3f59d7603aba0f9a85526165cf703d927", func := "presidio/presidiolaw23.PactPaths", spec := "pactPaths", unfollowed := true, recurses := true, apart := false }
def PactPathsSaid : Prop := pactPathsRow.holds Try.pinned (OpenSpec.ofChange pactPathsSpec)

/-- ITS FALSE NEIGHBOUR: 'it returns false'. Refute it at one input. -/
def pactPathsWrong : ChangeSpec := { name := "pactPaths", fn := fun _ => fun
  | [d1, d2] => { results := [.lit (.bool false)], args := [d1, d2] }
  | _ => none }
def PactPathsWrongFalsely : Prop := pactPathsRow.holds Try.pinned (OpenSpec.ofChange pactPathsWrong)

/-- 'presidiolaw23.PactDrops': WHATEVER THE INPUT: true; the input reads as it did. -/
def pactDropsSpec : ChangeSpec := { name := "pactDrops", fn := fun _ => fun
  | [d] => { results := [.lit (.bool true)], args := [d] }
  | _ => none }
def pactDropsRow : OpenClaim := { program := "ytcoedmiichppdaa", sum := "9ca0c18fa08fdfe2eba2f8c1111fa8a3f59d7603aba0f9a85526165cf703d927", func := "presidio/presidiolaw23.PactDrops", spec := "pactDrops", unfollowed := true, recurses := true, apart := false }
def PactDropsSaid : Prop := pactDropsRow.holds Try.pinned (OpenSpec.ofChange pactDropsSpec)

/-- ITS FALSE NEIGHBOUR: 'it returns false'. Refute it at one input. -/
def pactDropsWrong : ChangeSpec := { name := "pactDrops", fn := fun _ => fun
  | [d] => { results := [.lit (.bool false)], args := [d] }
  | _ => none }
def PactDropsWrongFalsely : Prop := pactDropsRow.holds Try.pinned (OpenSpec.ofChange pactDropsWrong)

/-- 'presidiolaw23.PactTakers': WHATEVER THE INPUT: true; the input reads as it did. -/
def pactTakersSpec : ChangeSpec := { name := "pactTakers", fn := fun _ => fun
  | [d1, d2, d3] => { results := [.lit (.bool true)], args := [d1, d2, d3] }
  | _ => none }
def pactTakersRow : OpenClaim := { program := "ytcoedmiichppdaa", sum := "9ca0c18fa08fdfe2eba2f8c1111fa8a3f59d7603aba0f9a85526165cf703d927", func := "presidio/presidiolaw23.PactTakers", spec := "pactTakers", unfollowed := true, recurses := true, apart := false }
def PactTakersSaid : Prop := pactTakersRow.holds Try.pinned (OpenSpec.ofChange pactTakersSpec)

/-- ITS FALSE NEIGHBOUR: 'it returns false'. Refute it at one input. -/
def pactTakersWrong : ChangeSpec := { name := "pactTakers", fn := fun _ => fun
  | [d1, d2, d3] => { results := [.lit (.bool false)], args := [d1, d2, d3] }
  | _ => none }
def PactTakersWrongFalsely : Prop := pactTakersRow.holds Try.pinned (OpenSpec.ofChange pactTakersWrong)

/-- 'presidiolaw23.PactAll': WHATEVER THE INPUT: true; the input reads as it did. -/
def pactAllSpec : ChangeSpec := { name := "pactAll", fn := fun _ => fun
  | [d1, d2] => { results := [.lit (.bool true)], args := [d1, d2] }
  | _ => none }
def pactAllRow : OpenClaim := { program := "ytcoedmiichppdaa", sum := "9ca0c18fa08fdfe2eba2f8c1111fa8a3f59d7603aba0f9a85526165cf703d927", func := "presidio/presidiolaw23.PactAll", spec := "pactAll", unfollowed := true, recurses := true, apart := false }
def PactAllSaid : Prop := pactAllRow.holds Try.pinned (OpenSpec.ofChange pactAllSpec)

/-- ITS FALSE NEIGHBOUR: 'it returns false'. Refute it at one input. -/
def pactAllWrong : ChangeSpec := { name := "pactAll", fn := fun _ => fun
  | [d1, d2] => { results := [.lit (.bool false)], args := [d1, d2] }
  | _ => none }
def PactAllWrongFalsely : Prop := pactAllRow.holds Try.pinned (OpenSpec.ofChange pactAllWrong)

/- THE SECOND FORM. 'bulk': how many values and letters a reading holds, each counted each time it is reached (what is shared counts as often as it is met; a slice's spare places count too). A statement '..UptoSaid' is the law's where the arguments, and the package variables that the reading takes, are together of bulk at most 1048576: NARROWER than '..Said'. Prove '..Said' where nothing that the law and all that it calls make is longer than what came in: it says more and counts as full. Else prove '..UptoSaid'. A law counts once. -/
mutual
def uptoBulk {H : Type} : DataW H → Nat
  | .lit (.string bytes) => bytes.length + 1
  | .lit _ => 1
  | .nil => 1
  | .ptr d => uptoBulk d + 1
  | .slice elems spare => uptoBulkAll elems + uptoBulkAll spare + 1
  | .agg parts => uptoBulkAll parts + 1
  | .iface _ d => uptoBulk d + 1
  | .map entries => uptoBulkEntries entries + 1
  | .held _ => 1
def uptoBulkAll {H : Type} : List (DataW H) → Nat
  | [] => 0
  | d :: r => uptoBulk d + uptoBulkAll r
def uptoBulkEntries {H : Type} : List (Lit × DataW H) → Nat
  | [] => 0
  | x :: r => uptoBulkEntry x + uptoBulkEntries r
def uptoBulkEntry {H : Type} : Lit × DataW H → Nat
  | (.string bytes, d) => bytes.length + uptoBulk d + 1
  | (_, d) => uptoBulk d + 1
 end
def uptoSmall : (H : Type) → List (DataW H) → Bool := fun _ ds => decide (uptoBulkAll ds ≤ 1048576)
def OpenSpec.upto (s : _root_.Go.ChangeSpec) : _root_.Go.OpenSpec := { _root_.Go.OpenSpec.ofChange s with cond := some uptoSmall }

/-- 'presidiolaw22.HoldAll', WHERE WHAT IT READS IS OF BULK AT MOST 1048576: true; the input reads as it did. -/
def holdAllUptoRow : OpenClaim := { program := "ytcoedmiichppdaa", sum := "9ca0c18fa08fdfe2eba2f8c1111fa8a3f59d7603aba0f9a85526165cf703d927", func := "presidio/presidiolaw22.HoldAll", spec := "holdAll", unfollowed := true, recurses := true, apart := false, narrowed := true }
def HoldAllUptoSaid : Prop := holdAllUptoRow.holds Try.pinned (OpenSpec.upto holdAllSpec)

/-- 'presidiolaw23.PactPaths', WHERE WHAT IT READS IS OF BULK AT MOST 1048576: true; the input reads as it did. -/
def pactPathsUptoRow : OpenClaim := { program := "ytcoedmiichppdaa", sum := "9ca0c18fa08fdfe2eba2f8c1111fa8a3f59d7603aba0f9a85526165cf703d927", func := "presidio/presidiolaw23.PactPaths", spec := "pactPaths", unfollowed := true, recurses := true, apart := false, narrowed := true }
def PactPathsUptoSaid : Prop := pactPathsUptoRow.holds Try.pinned (OpenSpec.upto pactPathsSpec)

/-- 'presidiolaw23.PactDrops', WHERE WHAT IT READS IS OF BULK AT MOST 1048576: true; the input reads as it did. -/
def pactDropsUptoRow : OpenClaim := { program := "ytcoedmiichppdaa", sum := "9ca0c18fa08fdfe2eba2f8c1111fa8a3f59d7603aba0f9a85526165cf703d927", func := "presidio/presidiolaw23.PactDrops", spec := "pactDrops", unfollowed := true, recurses := true, apart := false, narrowed := true }
def PactDropsUptoSaid : Prop := pactDropsUptoRow.holds Try.pinned (OpenSpec.upto pactDropsSpec)

/-- 'presidiolaw23.PactTakers', WHERE WHAT IT READS IS OF BULK AT MOST 1048576: true; the input reads as it did. -/
def pactTakersUptoRow : OpenClaim := { program := "ytcoedmiichppdaa", sum := "9ca0c18fa08fdfe2eba2f8c1111fa8a3f59d7603aba0f9a85526165cf703d927", func := "presidio/presidiolaw23.PactTakers", spec := "pactTakers", unfollowed := true, recurses := true, apart := false, narrowed := true }
def PactTakersUptoSaid : Prop := pactTakersUptoRow.holds Try.pinned (OpenSpec.upto pactTakersSpec)

/-- 'presidiolaw23.PactAll', WHERE WHAT IT READS IS OF BULK AT MOST 1048576: true; the input reads as it did. -/
def pactAllUptoRow : OpenClaim := { program := "ytcoedmiichppdaa", sum := "9ca0c18fa08fdfe2eba2f8c1111fa8a3f59d7603aba0f9a85526165cf703d927", func := "presidio/presidiolaw23.PactAll", spec := "pactAll", unfollowed := true, recurses := true, apart := false, narrowed := true }
def PactAllUptoSaid : Prop := pactAllUptoRow.holds Try.pinned (OpenSpec.upto pactAllSpec)

end Rows
end Go.Proofs.Ytcoedmiichppdaa
