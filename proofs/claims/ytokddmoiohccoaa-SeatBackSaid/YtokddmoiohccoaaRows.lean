/-
  No cell of these rows narrows 'for every input' (looked for: loops, veiled, ifaces, maps, wideKeys, modest, calm, conditions, laid).
  DERIVED. THE GIVEN ROWS OF THIS SEAT. 10 by the template 'for every input the law returns true; each argument reads behind the call as it read before'; 0 by the template 'total and deterministic' (their statements: YtokddmoiohccoaaTotals.lean).
  GIVEN WITH THE SEED: the statements are not yours to turn. If you find one false, say at which input.
  Laid BY PROGRAM, IN A SANDBOX (cutbox-rows.mjs): the forced cells as the released guide's own fill.sh prints them over the translation e8b718836befa754… (all of the seat's roots in one cut). By AI agents, Wed Nov 11 2026. No macro, syntax, notation, axiom, sorry.
-/
import Derived.Test.YtokddmoiohccoaaChecked
import GoSem.Claim
import GoSem.ClaimJoined
import GoSem.ClaimMapViews
import Derived.JoinedTies
import Derived.KernelRfl
namespace Go.Proofs.Ytokddmoiohccoaa
/- THE CELL 'sum', in the pinned program and in every row, IS THE sha256 OF THE DUMP (.gsa) THAT YtokddmoiohccoaaProg.lean LOADS. Nothing in Lean hashes anything: it is a label: what it is worth is what the hold of that sum in a sandbox is worth. -/
noncomputable def Try.pinned : Pinned := { name := "ytokddmoiohccoaa", sum := "e8b718836befa75431f9144d65118d2b59716e4687ac2c4cf9ae9d2c4ae0698b", checked := Try.checked }
namespace Rows
def none {H : Type} : Left H := { results := [], args := [] }

/-- 'presidiolaw26.SeatOwes': WHATEVER THE INPUT: true; the input reads as it did. -/
def seatOwesSpec : ChangeSpec := { name := "seatOwes", fn := fun _ => fun
  | [d1, d2] => { results := [.lit (.bool true)], args := [d1, d2] }
  | _ => none }
def seatOwesRow : OpenClaim := { program := "ytokddmoiohccoaa", sum := "e8b718836befa75431f9144d65118d2b59716e4687ac2c4cf9ae9d2c4ae0698b", func := "presidio/presidiolaw26.SeatOwes", spec := "seatOwes", plainKeys := false, apart := false }
def SeatOwesSaid : Prop := seatOwesRow.holds Try.pinned (OpenSpec.ofChange seatOwesSpec)

/-- ITS FALSE NEIGHBOUR: 'it returns false'. Refute it at one input. -/
def seatOwesWrong : ChangeSpec := { name := "seatOwes", fn := fun _ => fun
  | [d1, d2] => { results := [.lit (.bool false)], args := [d1, d2] }
  | _ => none }
def SeatOwesWrongFalsely : Prop := seatOwesRow.holds Try.pinned (OpenSpec.ofChange seatOwesWrong)

/-- 'presidiolaw26.SeatBack': WHATEVER THE INPUT: true; the input reads as it did. -/
def seatBackSpec : ChangeSpec := { name := "seatBack", fn := fun _ => fun
  | [d1, d2, d3, d4, d5, d6] => { results := [.lit (.bool true)], args := [d1, d2, d3, d4, d5, d6] }
  | _ => none }
def seatBackRow : OpenClaim := { program := "ytokddmoiohccoaa", sum := "e8b718836befa75431f9144d65118d2b59716e4687ac2c4cf9ae9d2c4ae0698b", func := "presidio/presidiolaw26.SeatBack", spec := "seatBack", plainKeys := false, apart := false }
def SeatBackSaid : Prop := seatBackRow.holds Try.pinned (OpenSpec.ofChange seatBackSpec)

/-- ITS FALSE NEIGHBOUR: 'it returns false'. Refute it at one input. -/
def seatBackWrong : ChangeSpec := { name := "seatBack", fn := fun _ => fun
  | [d1, d2, d3, d4, d5, d6] => { results := [.lit (.bool false)], args := [d1, d2, d3, d4, d5, d6] }
  | _ => none }
def SeatBackWrongFalsely : Prop := seatBackRow.holds Try.pinned (OpenSpec.ofChange seatBackWrong)

/-- 'presidiolaw11.BankAll': WHATEVER THE INPUT: true; the input reads as it did. -/
def bankAllSpec : ChangeSpec := { name := "bankAll", fn := fun _ => fun
  | [d1, d2] => { results := [.lit (.bool true)], args := [d1, d2] }
  | _ => none }
def bankAllRow : OpenClaim := { program := "ytokddmoiohccoaa", sum := "e8b718836befa75431f9144d65118d2b59716e4687ac2c4cf9ae9d2c4ae0698b", func := "presidio/presidiolaw11.BankAll", spec := "bankAll", unfollowed := true, recurses := true, plainKeys := false, apart := false }
def BankAllSaid : Prop := bankAllRow.holds Try.pinned (OpenSpec.ofChange bankAllSpec)

/-- ITS FALSE NEIGHBOUR: 'it returns false'. Refute it at one input. -/
def bankAllWrong : ChangeSpec := { name := "bankAll", fn := fun _ => fun
  | [d1, d2] => { results := [.lit (.bool false)], args := [d1, d2] }
  | _ => none }
def BankAllWrongFalsely : Prop := bankAllRow.holds Try.pinned (OpenSpec.ofChange bankAllWrong)

/-- 'presidiolaw11.BankOthers': WHATEVER THE INPUT: true; the input reads as it did. -/
def bankOthersSpec : ChangeSpec := { name := "bankOthers", fn := fun _ => fun
  | [d1, d2, d3] => { results := [.lit (.bool true)], args := [d1, d2, d3] }
  | _ => none }
def bankOthersRow : OpenClaim := { program := "ytokddmoiohccoaa", sum := "e8b718836befa75431f9144d65118d2b59716e4687ac2c4cf9ae9d2c4ae0698b", func := "presidio/presidiolaw11.BankOthers", spec := "bankOthers", unfollowed := true, recurses := true, plainKeys := false, apart := false }
def BankOthersSaid : Prop := bankOthersRow.holds Try.pinned (OpenSpec.ofChange bankOthersSpec)

/-- ITS FALSE NEIGHBOUR: 'it returns false'. Refute it at one input. -/
def bankOthersWrong : ChangeSpec := { name := "bankOthers", fn := fun _ => fun
  | [d1, d2, d3] => { results := [.lit (.bool false)], args := [d1, d2, d3] }
  | _ => none }
def BankOthersWrongFalsely : Prop := bankOthersRow.holds Try.pinned (OpenSpec.ofChange bankOthersWrong)

/-- 'presidiolaw10.ChainAll': WHATEVER THE INPUT: true; the input reads as it did. -/
def chainAllSpec : ChangeSpec := { name := "chainAll", fn := fun _ => fun
  | [d] => { results := [.lit (.bool true)], args := [d] }
  | _ => none }
def chainAllRow : OpenClaim := { program := "ytokddmoiohccoaa", sum := "e8b718836befa75431f9144d65118d2b59716e4687ac2c4cf9ae9d2c4ae0698b", func := "presidio/presidiolaw10.ChainAll", spec := "chainAll", unfollowed := true, recurses := true, plainKeys := false, apart := false }
def ChainAllSaid : Prop := chainAllRow.holds Try.pinned (OpenSpec.ofChange chainAllSpec)

/-- ITS FALSE NEIGHBOUR: 'it returns false'. Refute it at one input. -/
def chainAllWrong : ChangeSpec := { name := "chainAll", fn := fun _ => fun
  | [d] => { results := [.lit (.bool false)], args := [d] }
  | _ => none }
def ChainAllWrongFalsely : Prop := chainAllRow.holds Try.pinned (OpenSpec.ofChange chainAllWrong)

/-- 'presidiolaw10.ChainRound': WHATEVER THE INPUT: true; the input reads as it did. -/
def chainRoundSpec : ChangeSpec := { name := "chainRound", fn := fun _ => fun
  | [d] => { results := [.lit (.bool true)], args := [d] }
  | _ => none }
def chainRoundRow : OpenClaim := { program := "ytokddmoiohccoaa", sum := "e8b718836befa75431f9144d65118d2b59716e4687ac2c4cf9ae9d2c4ae0698b", func := "presidio/presidiolaw10.ChainRound", spec := "chainRound", unfollowed := true, recurses := true, plainKeys := false, apart := false }
def ChainRoundSaid : Prop := chainRoundRow.holds Try.pinned (OpenSpec.ofChange chainRoundSpec)

/-- ITS FALSE NEIGHBOUR: 'it returns false'. Refute it at one input. -/
def chainRoundWrong : ChangeSpec := { name := "chainRound", fn := fun _ => fun
  | [d] => { results := [.lit (.bool false)], args := [d] }
  | _ => none }
def ChainRoundWrongFalsely : Prop := chainRoundRow.holds Try.pinned (OpenSpec.ofChange chainRoundWrong)

/-- 'presidiolaw10.ChainRows': WHATEVER THE INPUT: true; the input reads as it did. -/
def chainRowsSpec : ChangeSpec := { name := "chainRows", fn := fun _ => fun
  | [d1, d2] => { results := [.lit (.bool true)], args := [d1, d2] }
  | _ => none }
def chainRowsRow : OpenClaim := { program := "ytokddmoiohccoaa", sum := "e8b718836befa75431f9144d65118d2b59716e4687ac2c4cf9ae9d2c4ae0698b", func := "presidio/presidiolaw10.ChainRows", spec := "chainRows", unfollowed := true, recurses := true, plainKeys := false, apart := false }
def ChainRowsSaid : Prop := chainRowsRow.holds Try.pinned (OpenSpec.ofChange chainRowsSpec)

/-- ITS FALSE NEIGHBOUR: 'it returns false'. Refute it at one input. -/
def chainRowsWrong : ChangeSpec := { name := "chainRows", fn := fun _ => fun
  | [d1, d2] => { results := [.lit (.bool false)], args := [d1, d2] }
  | _ => none }
def ChainRowsWrongFalsely : Prop := chainRowsRow.holds Try.pinned (OpenSpec.ofChange chainRowsWrong)

/-- 'presidiolaw26.SeatForms': WHATEVER THE INPUT: true; the input reads as it did. -/
def seatFormsSpec : ChangeSpec := { name := "seatForms", fn := fun _ => fun
  | [] => { results := [.lit (.bool true)], args := [] }
  | _ => none }
def seatFormsRow : OpenClaim := { program := "ytokddmoiohccoaa", sum := "e8b718836befa75431f9144d65118d2b59716e4687ac2c4cf9ae9d2c4ae0698b", func := "presidio/presidiolaw26.SeatForms", spec := "seatForms", unfollowed := true, recurses := true, plainKeys := false, apart := false }
def SeatFormsSaid : Prop := seatFormsRow.holds Try.pinned (OpenSpec.ofChange seatFormsSpec)

/-- ITS FALSE NEIGHBOUR: 'it returns false'. Refute it at one input. -/
def seatFormsWrong : ChangeSpec := { name := "seatForms", fn := fun _ => fun
  | [] => { results := [.lit (.bool false)], args := [] }
  | _ => none }
def SeatFormsWrongFalsely : Prop := seatFormsRow.holds Try.pinned (OpenSpec.ofChange seatFormsWrong)

/-- 'presidiolaw26.SeatOne': WHATEVER THE INPUT: true; the input reads as it did. -/
def seatOneSpec : ChangeSpec := { name := "seatOne", fn := fun _ => fun
  | [d1, d2] => { results := [.lit (.bool true)], args := [d1, d2] }
  | _ => none }
def seatOneRow : OpenClaim := { program := "ytokddmoiohccoaa", sum := "e8b718836befa75431f9144d65118d2b59716e4687ac2c4cf9ae9d2c4ae0698b", func := "presidio/presidiolaw26.SeatOne", spec := "seatOne", unfollowed := true, recurses := true, plainKeys := false, apart := false }
def SeatOneSaid : Prop := seatOneRow.holds Try.pinned (OpenSpec.ofChange seatOneSpec)

/-- ITS FALSE NEIGHBOUR: 'it returns false'. Refute it at one input. -/
def seatOneWrong : ChangeSpec := { name := "seatOne", fn := fun _ => fun
  | [d1, d2] => { results := [.lit (.bool false)], args := [d1, d2] }
  | _ => none }
def SeatOneWrongFalsely : Prop := seatOneRow.holds Try.pinned (OpenSpec.ofChange seatOneWrong)

/-- 'presidiolaw26.SeatKinds': WHATEVER THE INPUT: true; the input reads as it did. -/
def seatKindsSpec : ChangeSpec := { name := "seatKinds", fn := fun _ => fun
  | [d1, d2] => { results := [.lit (.bool true)], args := [d1, d2] }
  | _ => none }
def seatKindsRow : OpenClaim := { program := "ytokddmoiohccoaa", sum := "e8b718836befa75431f9144d65118d2b59716e4687ac2c4cf9ae9d2c4ae0698b", func := "presidio/presidiolaw26.SeatKinds", spec := "seatKinds", unfollowed := true, recurses := true, plainKeys := false, apart := false }
def SeatKindsSaid : Prop := seatKindsRow.holds Try.pinned (OpenSpec.ofChange seatKindsSpec)

/-- ITS FALSE NEIGHBOUR: 'it returns false'. Refute it at one input. -/
def seatKindsWrong : ChangeSpec := { name := "seatKinds", fn := fun _ => fun
  | [d1, d2] => { results := [.lit (.bool false)], args := [d1, d2] }
  | _ => none }
def SeatKindsWrongFalsely : Prop := seatKindsRow.holds Try.pinned (OpenSpec.ofChange seatKindsWrong)

/- THE SECOND FORM. 'bulk': how many values and letters a reading holds, each counted each time it is reached (what is shared counts as often as it is met; a slice's spare places count too). A statement '..UptoSaid' is the law's where the arguments, and the package variables that the reading takes, are together of bulk at most 1048576: NARROWER than '..Said'. Prove '..Said' where nothing that the law and all that it calls make is longer than what came in: it says more and counts as full. Else prove '..UptoSaid'. A law counts once. -/
mutual
def uptoBulk {H : Type} : DataW H → Nat
  | .lit (.string bytes) => bytes.length + 1
  | .lit _ => 1
  | .nil => 1
  | .ptr d => uptoBulk d + 1
  | .slice elems spare => uptoBulkAll elems + uptoBulkAll spare + 1
  | .agg parts => uptoBulkAll parts + 1
  | .iface _ d => uptoBulk d + 1
  | .map entries => uptoBulkEntries entries + 1
  | .held _ => 1
def uptoBulkAll {H : Type} : List (DataW H) → Nat
  | [] => 0
  | d :: r => uptoBulk d + uptoBulkAll r
def uptoBulkEntries {H : Type} : List (Lit × DataW H) → Nat
  | [] => 0
  | x :: r => uptoBulkEntry x + uptoBulkEntries r
def uptoBulkEntry {H : Type} : Lit × DataW H → Nat
  | (.string bytes, d) => bytes.length + uptoBulk d + 1
  | (_, d) => uptoBulk d + 1
 end
def uptoSmall : (H : Type) → List (DataW H) → Bool := fun _ ds => decide (uptoBulkAll ds ≤ 1048576)
def OpenSpec.upto (s : _root_.Go.ChangeSpec) : _root_.Go.OpenSpec := { _root_.Go.OpenSpec.ofChange s with cond := some uptoSmall }

/-- 'presidiolaw26.SeatOwes', WHERE WHAT IT READS IS OF BULK AT MOST 1048576: true; the input reads as it did. -/
def seatOwesUptoRow : OpenClaim := { program := "ytokddmoiohccoaa", sum := "e8b718836befa75431f9144d65118d2b59716e4687ac2c4cf9ae9d2c4ae0698b", func := "presidio/presidiolaw26.SeatOwes", spec := "seatOwes", plainKeys := false, apart := false, narrowed := true }
def SeatOwesUptoSaid : Prop := seatOwesUptoRow.holds Try.pinned (OpenSpec.upto seatOwesSpec)

/-- 'presidiolaw26.SeatBack', WHERE WHAT IT READS IS OF BULK AT MOST 1048576: true; the input reads as it did. -/
def seatBackUptoRow : OpenClaim := { program := "ytokddmoiohccoaa", sum := "e8b718836befa75431f9144d65118d2b59716e4687ac2c4cf9ae9d2c4ae0698b", func := "presidio/presidiolaw26.SeatBack", spec := "seatBack", plainKeys := false, apart := false, narrowed := true }
def SeatBackUptoSaid : Prop := seatBackUptoRow.holds Try.pinned (OpenSpec.upto seatBackSpec)

/-- 'presidiolaw11.BankAll', WHERE WHAT IT READS IS OF BULK AT MOST 1048576: true; the input reads as it did. -/
def bankAllUptoRow : OpenClaim := { program := "ytokddmoiohccoaa", sum := "e8b718836befa75431f9144d65118d2b59716e4687ac2c4cf9ae9d2c4ae0698b", func := "presidio/presidiolaw11.BankAll", spec := "bankAll", unfollowed := true, recurses := true, plainKeys := false, apart := false, narrowed := true }
def BankAllUptoSaid : Prop := bankAllUptoRow.holds Try.pinned (OpenSpec.upto bankAllSpec)

/-- 'presidiolaw11.BankOthers', WHERE WHAT IT READS IS OF BULK AT MOST 1048576: true; the input reads as it did. -/
def bankOthersUptoRow : OpenClaim := { program := "ytokddmoiohccoaa", sum := "e8b718836befa75431f9144d65118d2b59716e4687ac2c4cf9ae9d2c4ae0698b", func := "presidio/presidiolaw11.BankOthers", spec := "bankOthers", unfollowed := true, recurses := true, plainKeys := false, apart := false, narrowed := true }
def BankOthersUptoSaid : Prop := bankOthersUptoRow.holds Try.pinned (OpenSpec.upto bankOthersSpec)

/-- 'presidiolaw10.ChainAll', WHERE WHAT IT READS IS OF BULK AT MOST 1048576: true; the input reads as it did. -/
def chainAllUptoRow : OpenClaim := { program := "ytokddmoiohccoaa", sum := "e8b718836befa75431f9144d65118d2b59716e4687ac2c4cf9ae9d2c4ae0698b", func := "presidio/presidiolaw10.ChainAll", spec := "chainAll", unfollowed := true, recurses := true, plainKeys := false, apart := false, narrowed := true }
def ChainAllUptoSaid : Prop := chainAllUptoRow.holds Try.pinned (OpenSpec.upto chainAllSpec)

/-- 'presidiolaw10.ChainRound', WHERE WHAT IT READS IS OF BULK AT MOST 1048576: true; the input reads as it did. -/
def chainRoundUptoRow : OpenClaim := { program := "ytokddmoiohccoaa", sum := "e8b718836befa75431f9144d65118d2b59716e4687ac2c4cf9ae9d2c4ae0698b", func := "presidio/presidiolaw10.ChainRound", spec := "chainRound", unfollowed := true, recurses := true, plainKeys := false, apart := false, narrowed := true }
def ChainRoundUptoSaid : Prop := chainRoundUptoRow.holds Try.pinned (OpenSpec.upto chainRoundSpec)

/-- 'presidiolaw10.ChainRows', WHERE WHAT IT READS IS OF BULK AT MOST 1048576: true; the input reads as it did. -/
def chainRowsUptoRow : OpenClaim := { program := "ytokddmoiohccoaa", sum := "e8b718836befa75431f9144d65118d2b59716e4687ac2c4cf9ae9d2c4ae0698b", func := "presidio/presidiolaw10.ChainRows", spec := "chainRows", unfollowed := true, recurses := true, plainKeys := false, apart := false, narrowed := true }
def ChainRowsUptoSaid : Prop := chainRowsUptoRow.holds Try.pinned (OpenSpec.upto chainRowsSpec)

/-- 'presidiolaw26.SeatForms', WHERE WHAT IT READS IS OF BULK AT MOST 1048576: true; the input reads as it did. -/
def seatFormsUptoRow : OpenClaim := { program := "ytokddmoiohccoaa", sum := "e8b718836befa75431f9144d65118d2b59716e4687ac2c4cf9ae9d2c4ae0698b", func := "presidio/presidiolaw26.SeatForms", spec := "seatForms", unfollowed := true, recurses := true, plainKeys := false, apart := false, narrowed := true }
def SeatFormsUptoSaid : Prop := seatFormsUptoRow.holds Try.pinned (OpenSpec.upto seatFormsSpec)

/-- 'presidiolaw26.SeatOne', WHERE WHAT IT READS IS OF BULK AT MOST 1048576: true; the input reads as it did. -/
def seatOneUptoRow : OpenClaim := { program := "ytokddmoiohccoaa", sum := "e8b718836befa75431f9144d65118d2b59716e4687ac2c4cf9ae9d2c4ae0698b", func := "presidio/presidiolaw26.SeatOne", spec := "seatOne", unfollowed := true, recurses := true, plainKeys := false, apart := false, narrowed := true }
def SeatOneUptoSaid : Prop := seatOneUptoRow.holds Try.pinned (OpenSpec.upto seatOneSpec)

/-- 'presidiolaw26.SeatKinds', WHERE WHAT IT READS IS OF BULK AT MOST 1048576: true; the input reads as it did. -/
def seatKindsUptoRow : OpenClaim := { program := "ytokddmoiohccoaa", sum := "e8b718836befa75431f9144d65118d2b59716e4687ac2c4cf9ae9d2c4ae0698b", func := "presidio/presidiolaw26.SeatKinds", spec := "seatKinds", unfollowed := true, recurses := true, plainKeys := false, apart := false, narrowed := true }
def SeatKindsUptoSaid : Prop := seatKindsUptoRow.holds Try.pinned (OpenSpec.upto seatKindsSpec)

end Rows
end Go.Proofs.Ytokddmoiohccoaa
