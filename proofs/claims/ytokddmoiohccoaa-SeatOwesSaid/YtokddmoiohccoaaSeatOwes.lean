/-
  Who was called may not wait before it has answered, and who was not may not answer: the law SeatOwes returns true of each two truth values.
-/
import Derived.Test.YtokddmoiohccoaaPhase
import Derived.Test.YtokddmoiohccoaaRows
import Derived.WalkKit
import Derived.ProofKit
import Derived.OpenShut
import Derived.ShutString
namespace Go.Proofs.Ytokddmoiohccoaa.seatOwes
open Go.ChangeShapes Go.WideShapes Go.ChangeAt Go.RowKit
open Go.ChangeMaps (open_string shut_string)
set_option linter.unusedVariables false

theorem own : ownKnob Try.prog.godebug = none := by kernel_rfl

theorem run_tt : isTrue (Go.Am.run Try.prog prims1 (Go.Am.drawRun Try.prog) 100000 (.call 3 [.lit (.bool true), .lit (.bool true)]) st0) = true := by decide +kernel
theorem run_tf : isTrue (Go.Am.run Try.prog prims1 (Go.Am.drawRun Try.prog) 100000 (.call 3 [.lit (.bool true), .lit (.bool false)]) st0) = true := by decide +kernel
theorem run_ft : isTrue (Go.Am.run Try.prog prims1 (Go.Am.drawRun Try.prog) 100000 (.call 3 [.lit (.bool false), .lit (.bool true)]) st0) = true := by decide +kernel
theorem run_ff : isTrue (Go.Am.run Try.prog prims1 (Go.Am.drawRun Try.prog) 100000 (.call 3 [.lit (.bool false), .lit (.bool false)]) st0) = true := by decide +kernel

theorem runs (a0 a1 : Bool) : isTrue (Go.Am.run Try.prog prims1 (Go.Am.drawRun Try.prog) 100000 (.call 3 [.lit (.bool a0), .lit (.bool a1)]) st0) = true := by
  cases a0 <;> cases a1
  · exact run_ff
  · exact run_ft
  · exact run_tf
  · exact run_tt

theorem walk (a0 : Bool) (a1 : Bool) (w : World) :
    Calls Try.prog 3 #[.bool a0, .bool a1] w fun e w' => e = .returned (.bool true) ∧ Below w.heap.size w w' :=
  calls_run (args := [.lit (.bool a0), .lit (.bool a1)]) (us := #[.bool a0, .bool a1]) w (by kernel_rfl) ⟨_, _, rfl, ⟨rfl, rfl⟩, _, _, rfl, ⟨rfl, rfl⟩, rfl⟩ (runs a0 a1)

set_option maxRecDepth 100000 in
theorem lifted (os : Os) (started : os.Started) (H : Type) (enc : TypeId × Value → H) :
    ReturnsInHanded {} Try.checked os 3 .any (Rows.seatOwesSpec.pre6 enc Try.prog Try.f3 Rows.seatOwesRow.domain false) (Rows.seatOwesSpec.post enc Try.prog Try.f3 false true false false) := by
  refine returnsInHanded_of_change (C := Try.checked) own started (by kernel_rfl) Try.func3
    (ChangeSpec.witness6 (enc := enc) (C := Try.checked) false ⟨#[], #[.bool false, .bool false], []⟩ 8 (by kernel_rfl) (by kernel_rfl) (by kernel_rfl) (by kernel_rfl)) ?_
  intro W base args ds gs before hval0 hW hcnd _
  have hval : ∀ (j : Nat) t v, Try.f3.params[j]? = some t → args[j]? = some v → Value.okWide Try.prog W .any base t v := hval0
  have hW' := hW
  obtain ⟨p, q, hA0, hV, rfl, hfz, hnd⟩ := hW
  have hA : DataW.TrodAll enc Try.prog W 0 (fun _ => true) true Try.f3.params.toList args.toList ds p := hA0
  rw [Try.params3] at hA hval
  obtain ⟨v0, vs0, d0, ds0, p0, q0, hargs, rfl, rfl, h0, r0⟩ := trodAll_cons hA
  obtain ⟨v1, vs1, d1, ds1, p1, q1, rfl, rfl, rfl, h1, r1⟩ := trodAll_cons r0
  obtain ⟨rfl, rfl, rfl⟩ := trodAll_nil r1
  obtain rfl : args = #[v0, v1] := by cases args; simp_all
  obtain ⟨rfl, rfl⟩ := trodVars_none hV
  obtain ⟨a0, rfl, rfl, rfl⟩ := open_bool Try.underlying4 (hval 0 4 v0 rfl rfl) h0
  obtain ⟨a1, rfl, rfl, rfl⟩ := open_bool Try.underlying4 (hval 1 4 v1 rfl rfl) h1
  clear hA0 hval0
  simp only [List.append_nil] at hW'
  refine (walk a0 a1 W).mono fun e W' ⟨he, bel⟩ => ?_
  subst he
  exact ⟨_, rfl, _, _, _, [], _, [], hW', trodAll_mk1 (shut_bool Try.underlying4 _), (trodAll_cons_mk (shut_bool Try.underlying4 _) (trodAll_cons_mk (shut_bool Try.underlying4 _) trodAll_mk0)), rfl, bel.frame _, fun h => by cases h⟩

theorem over : Rows.seatOwesRow.holds Try.pinned (OpenSpec.ofChange Rows.seatOwesSpec) :=
  OpenClaim.holds_of_wide 3 Try.f3 rfl rfl rfl rfl rfl rfl rfl ⟨rfl, rfl, rfl, rfl, rfl⟩ rfl rfl rfl rfl rfl (by kernel_rfl) Try.func3 (by kernel_rfl)
    (of_decide_eq_true (by kernel_rfl)) (by unfold Func.isWrapper; first | (rw [if_pos (by decide +kernel)]; kernel_rfl) | (rw [if_neg (by decide +kernel)]; exact ⟨rfl, rfl⟩))
    (fun os started H enc _ => lifted os started H enc)

theorem proved : Rows.SeatOwesSaid :=
  over
#print axioms proved
end Go.Proofs.Ytokddmoiohccoaa.seatOwes
