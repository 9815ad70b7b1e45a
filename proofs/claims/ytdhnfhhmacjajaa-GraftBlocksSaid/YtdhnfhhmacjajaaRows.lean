/-
  No cell of these rows narrows 'for every input' (looked for: loops, veiled, ifaces, maps, wideKeys, modest, calm, conditions, laid).
  DERIVED. THE GIVEN ROWS OF THIS SEAT. 6 by the template 'for every input the law returns true; each argument reads behind the call as it read before'; 0 by the template 'total and deterministic' (their statements: YtdhnfhhmacjajaaTotals.lean).
  GIVEN WITH THE SEED: the statements are not yours to turn. If you find one false, say at which input.
  Laid BY PROGRAM, IN A SANDBOX (cutbox-rows.mjs): the forced cells as the released guide's own fill.sh prints them over the translation bbaacc5471a674e1… (all of the seat's roots in one cut). By AI agents, Wed Nov 11 2026. No macro, syntax, notation, axiom, sorry.
-/
import Derived.Test.YtdhnfhhmacjajaaChecked
import GoSem.Claim
import GoSem.ClaimJoined
import GoSem.ClaimMapViews
import Derived.JoinedTies
import Derived.KernelRfl
namespace Go.Proofs.Ytdhnfhhmacjajaa
/- THE CELL 'sum', in the pinned program and in every row, IS THE sha256 OF THE DUMP (.gsa) THAT YtdhnfhhmacjajaaProg.lean LOADS. Nothing in Lean hashes anything: it is a label: what it is worth is what the hold of that sum in a sandbox is worth. -/
noncomputable def Try.pinned : Pinned := { name := "ytdhnfhhmacjajaa", sum := "bbaacc5471a674e165226ac6cbf41ba8b167f7d40d41d341591f2dca8a412fc8", checked := Try.checked }
namespace Rows
def none {H : Type} : Left H := { results := [], args := [] }

/-- 'presidiolaw5.GraftAll': WHATEVER THE INPUT: true; the input reads as it did. -/
def graftAllSpec : ChangeSpec := { name := "graftAll", fn := fun _ => fun
  | [d1, d2, d3] => { results := [.lit (.bool true)], args := [d1, d2, d3] }
  | _ => none }
def graftAllRow : OpenClaim := { program := "ytdhnfhhmacjajaa", sum := "bbaacc5471a674e165226ac6cbf41ba8b167f7d40d41d341591f2dca8a412fc8", func := "presidio/presidiolaw5.GraftAll", spec := "graftAll", recurses := true, apart := false }
def GraftAllSaid : Prop := graftAllRow.holds Try.pinned (OpenSpec.ofChange graftAllSpec)

/-- ITS FALSE NEIGHBOUR: 'it returns false'. Refute it at one input. -/
def graftAllWrong : ChangeSpec := { name := "graftAll", fn := fun _ => fun
  | [d1, d2, d3] => { results := [.lit (.bool false)], args := [d1, d2, d3] }
  | _ => none }
def GraftAllWrongFalsely : Prop := graftAllRow.holds Try.pinned (OpenSpec.ofChange graftAllWrong)

/-- 'presidiolaw5.GraftBlocks': WHATEVER THE INPUT: true; the input reads as it did. -/
def graftBlocksSpec : ChangeSpec := { name := "graftBlocks", fn := fun _ => fun
  | [d1, d2, d3] => { results := [.lit (.bool true)], args := [d1, d2, d3] }
  | _ => none }
def graftBlocksRow : OpenClaim := { program := "ytdhnfhhmacjajaa", sum := "bbaacc5471a674e165226ac6cbf41ba8b167f7d40d41d341591f2dca8a412fc8", func := "presidio/presidiolaw5.GraftBlocks", spec := "graftBlocks", recurses := true, apart := false }
def GraftBlocksSaid : Prop := graftBlocksRow.holds Try.pinned (OpenSpec.ofChange graftBlocksSpec)

/-- ITS FALSE NEIGHBOUR: 'it returns false'. Refute it at one input. -/
def graftBlocksWrong : ChangeSpec := { name := "graftBlocks", fn := fun _ => fun
  | [d1, d2, d3] => { results := [.lit (.bool false)], args := [d1, d2, d3] }
  | _ => none }
def GraftBlocksWrongFalsely : Prop := graftBlocksRow.holds Try.pinned (OpenSpec.ofChange graftBlocksWrong)

/-- 'presidiolaw5.GraftFits': WHATEVER THE INPUT: true; the input reads as it did. -/
def graftFitsSpec : ChangeSpec := { name := "graftFits", fn := fun _ => fun
  | [d1, d2, d3, d4] => { results := [.lit (.bool true)], args := [d1, d2, d3, d4] }
  | _ => none }
def graftFitsRow : OpenClaim := { program := "ytdhnfhhmacjajaa", sum := "bbaacc5471a674e165226ac6cbf41ba8b167f7d40d41d341591f2dca8a412fc8", func := "presidio/presidiolaw5.GraftFits", spec := "graftFits", recurses := true, apart := false }
def GraftFitsSaid : Prop := graftFitsRow.holds Try.pinned (OpenSpec.ofChange graftFitsSpec)

/-- ITS FALSE NEIGHBOUR: 'it returns false'. Refute it at one input. -/
def graftFitsWrong : ChangeSpec := { name := "graftFits", fn := fun _ => fun
  | [d1, d2, d3, d4] => { results := [.lit (.bool false)], args := [d1, d2, d3, d4] }
  | _ => none }
def GraftFitsWrongFalsely : Prop := graftFitsRow.holds Try.pinned (OpenSpec.ofChange graftFitsWrong)

/-- 'presidiolaw5.GraftOrder': WHATEVER THE INPUT: true; the input reads as it did. -/
def graftOrderSpec : ChangeSpec := { name := "graftOrder", fn := fun _ => fun
  | [d1, d2, d3] => { results := [.lit (.bool true)], args := [d1, d2, d3] }
  | _ => none }
def graftOrderRow : OpenClaim := { program := "ytdhnfhhmacjajaa", sum := "bbaacc5471a674e165226ac6cbf41ba8b167f7d40d41d341591f2dca8a412fc8", func := "presidio/presidiolaw5.GraftOrder", spec := "graftOrder", recurses := true, apart := false }
def GraftOrderSaid : Prop := graftOrderRow.holds Try.pinned (OpenSpec.ofChange graftOrderSpec)

/-- ITS FALSE NEIGHBOUR: 'it returns false'. Refute it at one input. -/
def graftOrderWrong : ChangeSpec := { name := "graftOrder", fn := fun _ => fun
  | [d1, d2, d3] => { results := [.lit (.bool false)], args := [d1, d2, d3] }
  | _ => none }
def GraftOrderWrongFalsely : Prop := graftOrderRow.holds Try.pinned (OpenSpec.ofChange graftOrderWrong)

/-- 'presidiolaw5.GraftArgs': WHATEVER THE INPUT: true; the input reads as it did. -/
def graftArgsSpec : ChangeSpec := { name := "graftArgs", fn := fun _ => fun
  | [d1, d2, d3] => { results := [.lit (.bool true)], args := [d1, d2, d3] }
  | _ => none }
def graftArgsRow : OpenClaim := { program := "ytdhnfhhmacjajaa", sum := "bbaacc5471a674e165226ac6cbf41ba8b167f7d40d41d341591f2dca8a412fc8", func := "presidio/presidiolaw5.GraftArgs", spec := "graftArgs", recurses := true, apart := false }
def GraftArgsSaid : Prop := graftArgsRow.holds Try.pinned (OpenSpec.ofChange graftArgsSpec)

/-- ITS FALSE NEIGHBOUR: 'it returns false'. Refute it at one input. -/
def graftArgsWrong : ChangeSpec := { name := "graftArgs", fn := fun _ => fun
  | [d1, d2, d3] => { results := [.lit (.bool false)], args := [d1, d2, d3] }
  | _ => none }
def GraftArgsWrongFalsely : Prop := graftArgsRow.holds Try.pinned (OpenSpec.ofChange graftArgsWrong)

/-- 'presidiolaw5.GraftFull': WHATEVER THE INPUT: true; the input reads as it did. -/
def graftFullSpec : ChangeSpec := { name := "graftFull", fn := fun _ => fun
  | [d1, d2] => { results := [.lit (.bool true)], args := [d1, d2] }
  | _ => none }
def graftFullRow : OpenClaim := { program := "ytdhnfhhmacjajaa", sum := "bbaacc5471a674e165226ac6cbf41ba8b167f7d40d41d341591f2dca8a412fc8", func := "presidio/presidiolaw5.GraftFull", spec := "graftFull", recurses := true, apart := false }
def GraftFullSaid : Prop := graftFullRow.holds Try.pinned (OpenSpec.ofChange graftFullSpec)

/-- ITS FALSE NEIGHBOUR: 'it returns false'. Refute it at one input. -/
def graftFullWrong : ChangeSpec := { name := "graftFull", fn := fun _ => fun
  | [d1, d2] => { results := [.lit (.bool false)], args := [d1, d2] }
  | _ => none }
def GraftFullWrongFalsely : Prop := graftFullRow.holds Try.pinned (OpenSpec.ofChange graftFullWrong)

/- THE SECOND FORM. 'bulk': how many values and letters a reading holds, each counted each time it is reached (what is shared counts as often as it is met; a slice's spare places count too). A statement '..UptoSaid' is the law's where the arguments, and the package variables that the reading takes, are together of bulk at most 1048576: NARROWER than '..Said'. Prove '..Said' where nothing that the law and all that it calls make is longer than what came in: it says more and counts as full. Else prove '..UptoSaid'. A law counts once. -/
mutual
def uptoBulk {H : Type} : DataW H → Nat
  | .lit (.string bytes) => bytes.length + 1
  | .lit _ => 1
  | .nil => 1
  | .ptr d => uptoBulk d + 1
  | .slice elems spare => uptoBulkAll elems + uptoBulkAll spare + 1
  | .agg parts => uptoBulkAll parts + 1
  | .iface _ d => uptoBulk d + 1
  | .map entries => uptoBulkEntries entries + 1
  | .held _ => 1
def uptoBulkAll {H : Type} : List (DataW H) → Nat
  | [] => 0
  | d :: r => uptoBulk d + uptoBulkAll r
def uptoBulkEntries {H : Type} : List (Lit × DataW H) → Nat
  | [] => 0
  | x :: r => uptoBulkEntry x + uptoBulkEntries r
def uptoBulkEntry {H : Type} : Lit × DataW H → Nat
  | (.string bytes, d) => bytes.length + uptoBulk d + 1
  | (_, d) => uptoBulk d + 1
 end
def uptoSmall : (H : Type) → List (DataW H) → Bool := fun _ ds => decide (uptoBulkAll ds ≤ 1048576)
def OpenSpec.upto (s : _root_.Go.ChangeSpec) : _root_.Go.OpenSpec := { _root_.Go.OpenSpec.ofChange s with cond := some uptoSmall }

/-- 'presidiolaw5.GraftAll', WHERE WHAT IT READS IS OF BULK AT MOST 1048576: true; the input reads as it did. -/
def graftAllUptoRow : OpenClaim := { program := "ytdhnfhhmacjajaa", sum := "bbaacc5471a674e165226ac6cbf41ba8b167f7d40d41d341591f2dca8a412fc8", func := "presidio/presidiolaw5.GraftAll", spec := "graftAll", recurses := true, apart := false, narrowed := true }
def GraftAllUptoSaid : Prop := graftAllUptoRow.holds Try.pinned (OpenSpec.upto graftAllSpec)

/-- 'presidiolaw5.GraftBlocks', WHERE WHAT IT READS IS OF BULK AT MOST 1048576: true; the input reads as it did. -/
def graftBlocksUptoRow : OpenClaim := { program := "ytdhnfhhmacjajaa", sum := "bbaacc5471a674e165226ac6cbf41ba8b167f7d40d41d341591f2dca8a412fc8", func := "presidio/presidiolaw5.GraftBlocks", spec := "graftBlocks", recurses := true, apart := false, narrowed := true }
def GraftBlocksUptoSaid : Prop := graftBlocksUptoRow.holds Try.pinned (OpenSpec.upto graftBlocksSpec)

/-- 'presidiolaw5.GraftFits', WHERE WHAT IT READS IS OF BULK AT MOST 1048576: true; the input reads as it did. -/
def graftFitsUptoRow : OpenClaim := { program := "ytdhnfhhmacjajaa", sum := "bbaacc5471a674e165226ac6cbf41ba8b167f7d40d41d341591f2dca8a412fc8", func := "presidio/presidiolaw5.GraftFits", spec := "graftFits", recurses := true, apart := false, narrowed := true }
def GraftFitsUptoSaid : Prop := graftFitsUptoRow.holds Try.pinned (OpenSpec.upto graftFitsSpec)

/-- 'presidiolaw5.GraftOrder', WHERE WHAT IT READS IS OF BULK AT MOST 1048576: true; the input reads as it did. -/
def graftOrderUptoRow : OpenClaim := { program := "ytdhnfhhmacjajaa", sum := "bbaacc5471a674e165226ac6cbf41ba8b167f7d40d41d341591f2dca8a412fc8", func := "presidio/presidiolaw5.GraftOrder", spec := "graftOrder", recurses := true, apart := false, narrowed := true }
def GraftOrderUptoSaid : Prop := graftOrderUptoRow.holds Try.pinned (OpenSpec.upto graftOrderSpec)

/-- 'presidiolaw5.GraftArgs', WHERE WHAT IT READS IS OF BULK AT MOST 1048576: true; the input reads as it did. -/
def graftArgsUptoRow : OpenClaim := { program := "ytdhnfhhmacjajaa", sum := "bbaacc5471a674e165226ac6cbf41ba8b167f7d40d41d341591f2dca8a412fc8", func := "presidio/presidiolaw5.GraftArgs", spec := "graftArgs", recurses := true, apart := false, narrowed := true }
def GraftArgsUptoSaid : Prop := graftArgsUptoRow.holds Try.pinned (OpenSpec.upto graftArgsSpec)

/-- 'presidiolaw5.GraftFull', WHERE WHAT IT READS IS OF BULK AT MOST 1048576: true; the input reads as it did. -/
def graftFullUptoRow : OpenClaim := { program := "ytdhnfhhmacjajaa", sum := "bbaacc5471a674e165226ac6cbf41ba8b167f7d40d41d341591f2dca8a412fc8", func := "presidio/presidiolaw5.GraftFull", spec := "graftFull", recurses := true, apart := false, narrowed := true }
def GraftFullUptoSaid : Prop := graftFullUptoRow.holds Try.pinned (OpenSpec.upto graftFullSpec)

end Rows
end Go.Proofs.Ytdhnfhhmacjajaa
