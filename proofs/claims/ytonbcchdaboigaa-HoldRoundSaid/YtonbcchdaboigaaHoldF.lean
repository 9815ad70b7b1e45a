/-
  Package hold: Pages, Seen, Back, Gone, Out.
-/
import Derived.Test.YtonbcchdaboigaaHoldE
namespace Go.Proofs.Ytonbcchdaboigaa
open Go Go.RowKit Go.Maps Go.Am Go.Shelf
set_option linter.unusedVariables false

theorem fieldM (a b c d : Int) (w : World) : (Instr.field 46 (.agg #[.int .i64 a, .int .i64 b, .int .i64 c, .int .u64 d]) 3).run Try.prog w = .ok (.int .u64 d) w := by kernel_rfl

set_option maxRecDepth 100000 in
set_option maxHeartbeats 2000000 in
theorem tells_pages (w : World) : Tells 83 #[] (fun _ => true) w := by
  intro w1 r hg
  show Calls Try.prog 83 #[encP r] w1 _
  unfold encP
  go_enter Try.func83, Try.ntmps83
  go_wp2_with go_in
  go_ret
  exact ⟨rfl, .alloc _ _ _⟩

set_option maxRecDepth 100000 in
set_option maxHeartbeats 2000000 in
theorem tells_seen (w : World) : Tells 82 #[] (fun r => !(r.state == 3)) w := by
  intro w1 r hg
  show Calls Try.prog 82 #[encP r] w1 _
  unfold encP
  go_enter Try.func82, Try.ntmps82
  go_wp2_with go_in
  go_ret
  exact ⟨rfl, .alloc _ _ _⟩

/-- Shared or lent by that deal. -/
def givenB (mark : Int) (r : PageR) : Bool := r.mark == mark && (r.state == 2 || r.state == 3)

/-- Borrowed by that deal. -/
def borrowedB (mark : Int) (r : PageR) : Bool := r.mark == mark && r.state == 4

set_option maxRecDepth 100000 in
set_option maxHeartbeats 2000000 in
theorem tells_given (X : Nat) (mark : Int) (w : World) (hX : w.cell? ⟨X, 0, none⟩ = some (.int .u64 mark)) : Tells 120 #[.pointer (some ⟨X, 0, none⟩)] (givenB mark) w := by
  intro w1 r hg
  have hX1 := hg.cell hX (by simp)
  have hXl := cell_lt hX1
  show Calls Try.prog 120 #[encP r, .pointer (some ⟨X, 0, none⟩)] w1 _
  unfold encP givenB
  cases hA : (r.mark == mark)
  · go_enter Try.func120, Try.ntmps120
    go_wp2_with go_in
    go_ret
    exact ⟨rfl, .alloc _ _ _⟩
  · cases hB : (r.state == 2)
    · go_enter Try.func120, Try.ntmps120
      go_wp2_with go_in
      go_ret
      exact ⟨rfl, .alloc _ _ _⟩
    · go_enter Try.func120, Try.ntmps120
      go_wp2_with go_in
      go_ret
      exact ⟨rfl, .alloc _ _ _⟩

set_option maxRecDepth 100000 in
set_option maxHeartbeats 2000000 in
theorem tells_out (X : Nat) (mark : Int) (w : World) (hX : w.cell? ⟨X, 0, none⟩ = some (.int .u64 mark)) : Tells 85 #[.pointer (some ⟨X, 0, none⟩)] (borrowedB mark) w := by
  intro w1 r hg
  have hX1 := hg.cell hX (by simp)
  have hXl := cell_lt hX1
  show Calls Try.prog 85 #[encP r, .pointer (some ⟨X, 0, none⟩)] w1 _
  unfold encP borrowedB
  cases hA : (r.mark == mark)
  · go_enter Try.func85, Try.ntmps85
    go_wp2_with go_in
    go_ret
    exact ⟨rfl, .alloc _ _ _⟩
  · go_enter Try.func85, Try.ntmps85
    go_wp2_with go_in
    go_ret
    exact ⟨rfl, .alloc _ _ _⟩

end Go.Proofs.Ytonbcchdaboigaa
