/-
  Package span: May, Pages, and Of where there is nothing.
-/
import Derived.Test.YtonbcchdaboigaaSpanW
import Derived.Shelf.SortM.SortNone
namespace Go.Proofs.Ytonbcchdaboigaa
open Go Go.RowKit Go.Maps Go.Am
set_option linter.unusedVariables false

/-- The pages of rows, if they may be. -/
def pagesT (l : List (Int × Int)) : Option (List Int) := if 1 ≤ l.length ∧ l.length ≤ 8 then pagesG l [] else none

set_option maxRecDepth 100000 in
set_option maxHeartbeats 2000000 in
theorem pagesZ_calls (s : Option Addr) (n c : Nat) (w : World) (h : n = 0 ∨ 8 < n) (hn : n ≤ 100000) :
    Calls Try.prog 71 #[.slice s n c] w fun e w' => e = .returned (.tuple #[.slice none 0 0, .bool false]) ∧ w' = w := by
  rcases h with rfl | h
  · go_enter Try.func71, Try.ntmps71
    go_wp2_with fail
    go_ret2
    exact ⟨rfl, rfl⟩
  · have h0 : ((n : Int) == 0) = false := by rw [beq_eq_false_iff_ne]; omega
    have h0' : ¬ n = 0 := by omega
    have h8 : 8 < (n : Int) := by omega
    go_enter Try.func71, Try.ntmps71
    go_wp2_with fail
    go_ret2
    exact ⟨rfl, rfl⟩

theorem pagesT_calls (s : Option Addr) (b off c : Nat) (l : List (Int × Int)) (w : World) (hS : SpansIn w s b off l) (hl : l.length ≤ 100000) :
    Calls Try.prog 71 #[.slice s l.length c] w fun e w' => ∃ v, e = .returned (.tuple #[v, .bool (pagesT l).isSome]) ∧ GrowBut w w' [] ∧ w'.ownsRow w.heap.size 3 1 v ((pagesT l).getD []).length (((pagesT l).getD []).map (Value.int .i64)) := by
  by_cases h : 1 ≤ l.length ∧ l.length ≤ 8
  · refine (pagesG_calls s b off c l w hS h.1 h.2).mono ?_
    rintro e w' ⟨v, ok, rfl, hg, ⟨rfl, out, ho, hrow⟩ | ⟨rfl, ho, rfl⟩⟩
    · have : pagesT l = some out := by unfold pagesT; rw [if_pos h, ho]
      rw [this]
      exact ⟨v, rfl, hg, hrow⟩
    · have : pagesT l = none := by unfold pagesT; rw [if_pos h, ho]
      rw [this]
      exact ⟨_, rfl, hg, World.ownsRow_nil _ _ _ _⟩
  · refine (pagesZ_calls s l.length c w (by omega) hl).mono ?_
    rintro e w' ⟨rfl, rfl⟩
    have : pagesT l = none := by unfold pagesT; rw [if_neg h]
    rw [this]
    exact ⟨_, rfl, .refl _ _, World.ownsRow_nil _ _ _ _⟩

set_option maxRecDepth 100000 in
set_option maxHeartbeats 2000000 in
theorem mayT_calls (s : Option Addr) (b off c : Nat) (l : List (Int × Int)) (w : World) (hS : SpansIn w s b off l) (hl : l.length ≤ 100000) :
    Calls Try.prog 12 #[.slice s l.length c] w fun e w' => e = .returned (.bool (pagesT l).isSome) ∧ GrowBut w w' [] := by
  have hP := pagesT_calls s b off c l w hS hl
  generalize pagesT l = t at hP ⊢
  go_enter Try.func12, Try.ntmps12
  go_wp2_with (first
    | (go_at_call 71; refine hP.mono ?_; rintro e w1 ⟨v, rfl, hg, _⟩)
    | go_in)
  go_ret
  exact ⟨rfl, hg⟩

set_option maxRecDepth 100000 in
set_option maxHeartbeats 2000000 in
theorem PagesT_calls (s : Option Addr) (b off c : Nat) (l : List (Int × Int)) (w : World) (hS : SpansIn w s b off l) (hl : l.length ≤ 100000) :
    Calls Try.prog 15 #[.slice s l.length c] w fun e w' => ∃ v, e = .returned v ∧ GrowBut w w' [] ∧ w'.ownsRow w.heap.size 3 1 v ((pagesT l).getD []).length (((pagesT l).getD []).map (Value.int .i64)) := by
  have hP := pagesT_calls s b off c l w hS hl
  generalize pagesT l = t at hP ⊢
  go_enter Try.func15, Try.ntmps15
  go_wp2_with (first
    | (go_at_call 71; refine hP.mono ?_; rintro e w1 ⟨v, rfl, hg, hrow⟩)
    | go_in)
  go_ret
  exact ⟨v, rfl, hg, hrow⟩

set_option maxRecDepth 100000 in
set_option maxHeartbeats 2000000 in
theorem ofN_calls (c : Nat) (w : World) : Calls Try.prog 18 #[.slice none 0 c] w fun e w' => e = .returned (.slice none 0 0) ∧ w' = w := by
  have hCl := cloneT_nil c w
  have hSo := AnyM.slices_Sort_int_none Try.sortP none 0 w
  have hCo := Any.slices_Compact_int_empty Try.compactL none 0 w
  go_enter Try.func18, Try.ntmps18
  go_wp2_with (first
    | (go_at_call 72; (refine hCl.mono ?_; rintro e w1 ⟨rfl, hw1⟩; rw [hw1]; clear hw1 w1))
    | (go_at_call 73; (refine hSo.mono ?_; rintro e w1 ⟨rfl, hw1⟩; rw [hw1]; clear hw1 w1))
    | (go_at_call 74; (refine hCo.mono ?_; rintro e w1 ⟨rfl, hw1⟩; rw [hw1]; clear hw1 w1))
    | fail)
  clear hCl hSo hCo
  go_loopw [4, 17] (fun v4 v17 wx => v4 = .slice none 0 0 ∧ v17 = .int .i64 0 ∧ wx = w) (fun _ _ _ => 0)
  case atStart => exact ⟨rfl, rfl, rfl⟩
  case round =>
    obtain ⟨rfl, rfl, rfl⟩ := hrel
    go_wp2_with fail
    go_loopw [2, 67] (fun v2 v67 wx => v2 = .slice none 0 0 ∧ v67 = .int .i64 0 ∧ wx = wr) (fun _ _ _ => 0)
    case atStart => exact ⟨rfl, rfl, rfl⟩
    case round =>
      obtain ⟨rfl, rfl, rfl⟩ := hrel
      go_wp2_with fail
      go_ret
      exact ⟨rfl, rfl⟩

end Go.Proofs.Ytonbcchdaboigaa
