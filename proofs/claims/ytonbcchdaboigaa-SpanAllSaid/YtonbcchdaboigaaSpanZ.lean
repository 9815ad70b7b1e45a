/-
  Package span: Of any numbers, wherever they lie.
-/
import Derived.Test.YtonbcchdaboigaaRefSpan3
namespace Go.Proofs.Ytonbcchdaboigaa
open Go Go.RowKit Go.Maps Go.Am
set_option linter.unusedVariables false

theorem ofS_nil : ofS [] = [] := by
  rw [ofS_pgF (zs := []) (by simp)]
  have : pgF [] = [] := by unfold pgF; exact List.filter_eq_nil_iff.2 fun i _ => by simp [inB]
  rw [this]; rfl

set_option maxRecDepth 100000 in
set_option maxHeartbeats 2000000 in
theorem ofE_calls (a : Addr) (c : Nat) (w : World) : Calls Try.prog 18 #[.slice (some a) 0 c] w fun e w' => e = .returned (.slice none 0 0) ∧ GrowBut w w' [] := by
  have hCl := Any.slices_Clone_int_zero Try.cloneL a c w
  have hSo := fun p cap w => AnyM.slices_Sort_int_none Try.sortP p cap w
  have hCo := fun p cap w => Any.slices_Compact_int_empty Try.compactL p cap w
  go_enter Try.func18, Try.ntmps18
  go_wp2_with (first
    | (go_at_call 72; (refine hCl.mono ?_; rintro e w1 ⟨v1, rfl, hrow1, _, hbel⟩; obtain ⟨s1, cp1, rfl⟩ := row_form hrow1; have hS1 := hSo s1 cp1 w1; have hC1 := hCo s1 cp1 w1))
    | (go_at_call 73; (refine hS1.mono ?_; rintro e w2 ⟨rfl, hw2⟩; rw [hw2]; clear hw2 w2))
    | (go_at_call 74; (refine hC1.mono ?_; rintro e w2 ⟨rfl, hw2⟩; rw [hw2]; clear hw2 w2))
    | fail)
  clear hCl hSo hCo hS1 hC1 hrow1
  have hG1 : GrowBut w w1 [] := .of_below hbel
  go_loopw [4, 17] (fun v4 v17 wx => v4 = .slice none 0 0 ∧ v17 = .int .i64 0 ∧ wx = w1) (fun _ _ _ => 0)
  case atStart => exact ⟨rfl, rfl, rfl⟩
  case round =>
    obtain ⟨rfl, rfl, rfl⟩ := hrel
    go_wp2_with fail
    go_loopw [2, 67] (fun v2 v67 wx => v2 = .slice none 0 0 ∧ v67 = .int .i64 0 ∧ wx = wr) (fun _ _ _ => 0)
    case atStart => exact ⟨rfl, rfl, rfl⟩
    case round =>
      obtain ⟨rfl, rfl, rfl⟩ := hrel
      go_wp2_with fail
      go_ret
      exact ⟨rfl, hG1⟩

theorem ofI_calls (s : Option Addr) (b off c : Nat) (zs : List Int) (w : World) (hz : 0 < zs.length → s = some ⟨b, off, none⟩ ∧ ∀ j, j < zs.length → w.cell? ⟨b, off + j, none⟩ = some (.int .i64 (zs.getD j 0)) ∧ (Lit.int .i64 (zs.getD j 0)).wf = true) (hl : zs.length ≤ 1000) :
    Calls Try.prog 18 #[.slice s zs.length c] w fun e w' => ∃ v, e = .returned v ∧ w'.ownsRow w.heap.size 64 2 v (ofS zs).length (encS (ofS zs)) ∧ GrowBut w w' [] := by
  rcases Nat.eq_zero_or_pos zs.length with h0 | h0
  · have : zs = [] := List.length_eq_zero_iff.1 h0
    subst this
    rw [ofS_nil]
    cases s with
    | none =>
      refine (ofN_calls c w).mono ?_
      rintro e w' ⟨rfl, rfl⟩
      exact ⟨_, rfl, World.ownsRow_nil _ _ _ _, .refl _ _⟩
    | some a =>
      refine (ofE_calls a c w).mono ?_
      rintro e w' ⟨rfl, hg⟩
      exact ⟨_, rfl, World.ownsRow_nil _ _ _ _, hg⟩
  · obtain ⟨rfl, hc⟩ := hz h0
    exact of_calls b off c zs w (fun j hj => (hc j hj).1) hl

end Go.Proofs.Ytonbcchdaboigaa
