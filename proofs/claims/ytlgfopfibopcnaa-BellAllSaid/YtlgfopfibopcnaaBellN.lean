/-
  Bells that are not there: a nil pointer's methods.
-/
import Derived.Test.YtlgfopfibopcnaaBellR
namespace Go.Proofs.Ytlgfopfibopcnaa
open Go Go.RowKit Go.Maps Go.Am Go.Sort
set_option linter.unusedVariables false

set_option maxRecDepth 100000 in
theorem ofB_nil (who : Int) (w : World) : Calls Try.prog 160 #[.pointer none, .int .i64 who] w fun r w' => r = .returned (.pointer none) ∧ w' = w := by
  go_enter Try.func160, Try.ntmps160
  go_wp2_with go_in
  go_ret
  exact ⟨rfl, rfl⟩

set_option maxRecDepth 100000 in
theorem hear_nil (w : World) : Calls Try.prog 65 #[.pointer none, .int .i64 1] w fun r w' => r = .returned (.tuple #[.int .u64 0, .int .i64 (-6)]) ∧ w' = w := by
  have hO := ofB_nil 1 w
  go_enter Try.func65, Try.ntmps65
  go_wp2_with (first
    | (go_at_call 160; refine hO.mono ?_; rintro r w1 ⟨rfl, hw1⟩; rw [hw1]; clear hw1 w1)
    | go_in)
  go_ret2
  exact ⟨rfl, rfl⟩

set_option maxRecDepth 100000 in
theorem make_nil (w : World) : Calls Try.prog 55 #[.pointer none, .int .i64 1] w fun r w' => r = .returned (.int .i64 (-6)) ∧ w' = w := by
  go_enter Try.func55, Try.ntmps55
  go_wp2_with go_in
  go_ret
  exact ⟨rfl, rfl⟩

set_option maxRecDepth 100000 in
theorem bound_nil (w : World) : Calls Try.prog 69 #[.pointer none, .int .i64 1, .int .i64 2] w fun r w' => r = .returned (.int .u64 0) ∧ w' = w := by
  have hO := ofB_nil 1 w
  go_enter Try.func69, Try.ntmps69
  go_wp2_with (first
    | (go_at_call 160; refine hO.mono ?_; rintro r w1 ⟨rfl, hw1⟩; rw [hw1]; clear hw1 w1)
    | go_in)
  go_ret
  exact ⟨rfl, rfl⟩

set_option maxRecDepth 100000 in
theorem ring_nil (w : World) : Calls Try.prog 63 #[.pointer none, .int .i64 1, .int .i64 2, .int .u64 1] w fun r w' => r = .returned (.int .i64 (-6)) ∧ w' = w := by
  have hO := ofB_nil 1 w
  go_enter Try.func63, Try.ntmps63
  go_wp2_with (first
    | (go_at_call 160; refine hO.mono ?_; rintro r w1 ⟨rfl, hw1⟩; rw [hw1]; clear hw1 w1)
    | go_in)
  go_ret
  exact ⟨rfl, rfl⟩

set_option maxRecDepth 100000 in
theorem news_nil (w : World) : Calls Try.prog 67 #[.pointer none] w fun r w' => r = .returned (.slice none 0 0) ∧ w' = w := by
  go_enter Try.func67, Try.ntmps67
  go_wp2_with go_in
  go_ret
  exact ⟨rfl, rfl⟩

end Go.Proofs.Ytlgfopfibopcnaa
