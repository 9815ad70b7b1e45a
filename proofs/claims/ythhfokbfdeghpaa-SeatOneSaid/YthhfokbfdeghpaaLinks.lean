/-
  chain.Links: how many pairs it tells, whatever the order in which the map is ranged over: a contract for the machine.
-/
import Derived.Test.YthhfokbfdeghpaaBase
import Derived.Test.YthhfokbfdeghpaaAm29
import Derived.Shelf.SlSortCmp.WholeK
import Derived.Shelf.SlSortCmp.NoneTotal
import Derived.Shelf.SlicesG.Cmp
import Derived.Shelf.Lay
import Derived.Ground.SlsfProg
import Derived.Ground.SlgcProg
import Derived.Maps.RangeWalk
import Derived.WalkKit
import Derived.WalkSpells
import Derived.Lib.SlKeysI
namespace Go.Proofs.Ythhfokbfdeghpaa
open Go Go.RowKit Go.Maps Go.Sort Go.Shelf Go.Lib
set_option linter.unusedVariables false

shelf_lay_g SlLaysF0.n6 Slsf 6 at Try 119 as Try.sortL
shelf_lay_g SlLaysC2.n5 Slgc 5 at Try 121 as Try.cmpL

/-- A pair's two cells. -/
def encL (x : Int × Int) : List Value := [.int .i64 x.1, .int .i64 x.2]

theorem isAggL (w : World) : (isAgg 95).run Try.prog w = .ok true w := by kernel_rfl
theorem sizeOfL (w : World) : (Go.sizeOf 95).run Try.prog w = .ok 2 w := by kernel_rfl

set_option maxHeartbeats 1000000 in
/-- The comparing function: in whatever world: two blocks are laid. -/
theorem closureL (x y : Int × Int) (W : World) : Calls Try.prog 120 #[.agg #[.int .i64 x.1, .int .i64 x.2], .agg #[.int .i64 y.1, .int .i64 y.2]] W fun e w' => e = .returned (.int .i64 (Lib.compareInt x.1 y.1)) ∧ ∃ q os', w' = grow (W.drewN q) os' := by
  have hcon := fun W' => AnyG.cmp_Compare_int Try.cmpL x.1 y.1 W'
  change ∀ W', Calls Try.prog 121 _ _ _ at hcon
  generalize Lib.compareInt x.1 y.1 = r at hcon ⊢
  go_enter Try.func120, Try.ntmps120
  go_wp2_with (go_at_call 121; refine (hcon _).mono ?_; rintro e w' ⟨rfl, rfl⟩)
  go_ret
  exact ⟨rfl, 0, _, by rw [alloc_eq_grow, alloc_eq_grow, grow_grow]; rfl⟩

theorem cmpLaysL (blk off size : Nat) (w : World) : CmpLays Try.prog 120 #[] encL 2 (fun x y => Lib.compareInt x.1 y.1) blk off size w :=
  fun _ _ _ _ x y => closureL x y _

theorem ltL (x y : Int × Int) : ltOf (fun x y : Int × Int => Lib.compareInt x.1 y.1) x y = decide (x.1 < y.1) := by
  unfold ltOf Lib.compareInt
  by_cases h1 : x.1 < y.1
  · simp [h1]
  · by_cases h2 : y.1 < x.1 <;> simp [h1, h2]

theorem swoL : SWO (ltOf fun x y : Int × Int => Lib.compareInt x.1 y.1) where
  irrefl x := by rw [ltL]; simp
  trans x y z h1 h2 := by rw [ltL] at *; simp at *; omega
  ntrans x y z h1 h2 := by rw [ltL] at *; simp at *; omega

theorem sort_callsL (blk off cap : Nat) (d : Array (Int × Int)) (w : World) (hH : HoldsK encL 2 w blk off d) (hblk : blk < w.heap.size) (hsz : d.size < 4611686018427387904) :
    Calls Try.prog 119 #[.slice (some ⟨blk, off, none⟩) d.size cap, .func (.func 120) #[] #[]] w fun e w' => e = .returned (.tuple #[]) ∧ ∃ (d' : Array (Int × Int)) (n : Nat) (os : Array Obj), PermIn 0 d.size d d' ∧ w' = sortWorldK encL 2 w blk off n d' os := by
  have eg : ∀ args w, (callFunc 120 args).run Try.prog w = .ok (.enter 120 args) w := enters_of Try.func120 (by kernel_rfl) rfl
  have hcon := AnyQ.slices_SortFunc Try.sortL 2 isAggL sizeOfL encL (fun _ => rfl) (fun x v hv => by simp [encL] at hv; rcases hv with rfl | rfl <;> rfl) (fun x y => Lib.compareInt x.1 y.1) swoL 120 #[] blk off cap d w eg (cmpLaysL blk off d.size w) hH hblk hsz
  exact Calls.mono hcon fun e w' ⟨h1, d', n, os, hp, _, hw⟩ => ⟨h1, d', n, os, hp, hw⟩

end Go.Proofs.Ythhfokbfdeghpaa
