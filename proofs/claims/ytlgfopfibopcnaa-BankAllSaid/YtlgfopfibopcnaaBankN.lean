/-
  The bank that is not there: a nil pointer's methods.
-/
import Derived.Test.YtlgfopfibopcnaaRefBank
namespace Go.Proofs.Ytlgfopfibopcnaa
open Go Go.RowKit Go.Maps Go.Am Go.Lib
set_option linter.unusedVariables false

set_option maxRecDepth 100000 in
theorem saveN_calls (k x0 x1 x2 x3 x4 x5 x6 x7 : Int) (w : World) :
    Calls Try.prog 34 #[.pointer none, .int .i64 k, .agg #[.int .u64 x0, .int .u64 x1, .int .u64 x2, .int .u64 x3, .int .u64 x4, .int .u64 x5, .int .u64 x6, .int .u64 x7]] w fun e w' => e = .returned (.tuple #[]) ∧ GrowBut w w' [] := by
  go_enter Try.func34, Try.ntmps34
  go_wp2_with go_in
  go_end0
  exact ⟨rfl, GrowBut.alloc _ _ _⟩

set_option maxRecDepth 100000 in
theorem loadN_calls (k : Int) (w : World) :
    Calls Try.prog 36 #[.pointer none, .int .i64 k] w fun e w' => e = .returned (.tuple #[zeroRegs, .bool false]) ∧ GrowBut w w' [] := by
  go_enter Try.func36, Try.ntmps36
  go_wp2_with go_in
  refine bodyPost_ret_by (v := .tuple #[zeroRegs, .bool false]) ?_ rfl ⟨rfl, GrowBut.alloc _ _ _⟩
  simp only [results, Try.f36]; unfold zeroRegs; go_simp

set_option maxRecDepth 100000 in
theorem dropN_calls (k : Int) (w : World) :
    Calls Try.prog 32 #[.pointer none, .int .i64 k] w fun e w' => e = .returned (.bool false) ∧ GrowBut w w' [] := by
  go_enter Try.func32, Try.ntmps32
  go_wp2_with (first
    | (go_at_call 36; refine (loadN_calls k _).mono ?_; rintro e w1 ⟨rfl, hg1⟩; unfold zeroRegs)
    | go_in)
  go_ret
  exact ⟨rfl, hg1.trans (GrowBut.alloc _ _ _)⟩

set_option maxRecDepth 100000 in
theorem whoN_calls (w : World) :
    Calls Try.prog 37 #[.pointer none] w fun e w' => e = .returned (.slice none 0 0) ∧ GrowBut w w' [] := by
  go_enter Try.func37, Try.ntmps37
  go_wp2_with go_in
  go_ret
  exact ⟨rfl, .refl _ _⟩

end Go.Proofs.Ytlgfopfibopcnaa
