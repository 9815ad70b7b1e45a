/-
  Package bank: the contracts of New, Save, Load.
-/
import Derived.Test.YthhfokbfdeghpaaSorted
import Derived.Maps.OwnSet
import Derived.Maps.RangeWalk
import Derived.WalkKit
import Derived.WalkSpells
import Derived.StillTailTactics
namespace Go.Proofs.Ythhfokbfdeghpaa
open Go Go.RowKit Go.Maps Go.Am
set_option linter.unusedVariables false

/-- Registers. -/
def IsRegs (v : Value) : Prop := ∃ x0 x1 x2 x3 x4 x5 x6 x7 : Int, v = .agg #[.int .u64 x0, .int .u64 x1, .int .u64 x2, .int .u64 x3, .int .u64 x4, .int .u64 x5, .int .u64 x6, .int .u64 x7]

open Classical in
noncomputable def regsR (v : Value) : Option (DataW Value × List MemPlace) := if IsRegs v then some (.held v, []) else none

theorem regsR_mk {v : Value} (h : IsRegs v) : regsR v = some (.held v, []) := by unfold regsR; rw [if_pos h]

theorem regsR_inv {v : Value} {d : DataW Value} {ps : List MemPlace} (h : regsR v = some (d, ps)) : IsRegs v ∧ d = .held v ∧ ps = [] := by
  unfold regsR at h
  split at h
  · rename_i hv
    cases h
    exact ⟨hv, rfl, rfl⟩
  · cases h

def zeroRegs : Value := .agg #[.int .u64 0, .int .u64 0, .int .u64 0, .int .u64 0, .int .u64 0, .int .u64 0, .int .u64 0, .int .u64 0]

theorem zeroRegs_is : IsRegs zeroRegs := ⟨0, 0, 0, 0, 0, 0, 0, 0, rfl⟩

theorem zeroR (w : World) : (zeroValue 86).run Try.prog w = .ok zeroRegs w := by kernel_rfl

theorem law3B : Keyed Try.prog 3 := int_keyed Try.underlying3

abbrev kI (k : Int) : Lit := .int .i64 k

theorem keyI {k : Int} (hk : (Lit.int .i64 k).wf = true) : keyOf Try.prog 3 (.int .i64 k) = some (kI k) := keyOf_int_mk Try.underlying3 hk

/-- A bank is at B; what it holds is D. -/
structure BankAt (w : World) (B b n : Nat) (D : DataW Value) : Prop where
  ptr : w.cell? ⟨B, 0, none⟩ = some (.map (some b))
  lt : B < w.heap.size
  ne : B ≠ b
  own : w.ownsMap Try.prog 3 regsR b n D

theorem BankAt.kept {w w' : World} {B b n : Nat} {D : DataW Value} {row : Option Nat} (h : BankAt w B b n D) (hg : w.grownBy w' row) (h1 : some b ≠ row) (h2 : some B ≠ row) : BankAt w' B b n D :=
  ⟨by have := h.ptr; unfold World.cell? at this ⊢; rw [hg.block B h.lt h2]; exact this, Nat.lt_of_lt_of_le h.lt hg.size, h.ne, h.own.kept hg h1⟩

set_option maxRecDepth 100000 in
set_option maxHeartbeats 2000000 in
theorem save_calls (B b n : Nat) (k : Int) (v : Value) (D : DataW Value) (w : World) (h : BankAt w B b n D) (hk : (Lit.int .i64 k).wf = true) (hv : IsRegs v) (hn : n < maxLen) :
    Calls Try.prog 118 #[.pointer (some ⟨B, 0, none⟩), .int .i64 k, v] w fun e w' => e = .returned (.tuple #[]) ∧ BankAt w' B b (n + 1) (D.put (kI k) (.held v)) ∧ w.grownBy w' (some b) := by
  obtain ⟨x0, x1, x2, x3, x4, x5, x6, x7, rfl⟩ := hv
  obtain ⟨hptr, hlt, hne, hown⟩ := h
  go_enter Try.func118, Try.ntmps118
  go_wp2_with go_in
  obtain ⟨w1, hw1⟩ : ∃ w1, w1 = w.alloc (.cells #[.int .u64 x0, .int .u64 x1, .int .u64 x2, .int .u64 x3, .int .u64 x4, .int .u64 x5, .int .u64 x6, .int .u64 x7] 86) := ⟨_, rfl⟩
  have hg1 : w.grownBy w1 none := hw1 ▸ World.grownBy_alloc w _ none
  have hB1 := (BankAt.mk hptr hlt hne hown).kept hg1 (by simp) (by simp)
  have c0 : w1.cell? ⟨w.heap.size, 0, none⟩ = some (.int .u64 x0) := by rw [hw1]; go_simp
  have c1 : w1.cell? ⟨w.heap.size, 1, none⟩ = some (.int .u64 x1) := by rw [hw1]; go_simp
  have c2 : w1.cell? ⟨w.heap.size, 2, none⟩ = some (.int .u64 x2) := by rw [hw1]; go_simp
  have c3 : w1.cell? ⟨w.heap.size, 3, none⟩ = some (.int .u64 x3) := by rw [hw1]; go_simp
  have c4 : w1.cell? ⟨w.heap.size, 4, none⟩ = some (.int .u64 x4) := by rw [hw1]; go_simp
  have c5 : w1.cell? ⟨w.heap.size, 5, none⟩ = some (.int .u64 x5) := by rw [hw1]; go_simp
  have c6 : w1.cell? ⟨w.heap.size, 6, none⟩ = some (.int .u64 x6) := by rw [hw1]; go_simp
  have c7 : w1.cell? ⟨w.heap.size, 7, none⟩ = some (.int .u64 x7) := by rw [hw1]; go_simp
  have hptr1 := hB1.ptr
  rw [← hw1]
  clear hw1
  go_still_tail 6, (by kernel_rfl)
  change wpList _ _ _ _ _ w1.drew
  go_wp2_with (at_mapUpdate; refine wpList_mapUpdate_own _ rfl _ _ _ 180 rfl 3 86 law3B Try.underlying180 regsR b n D rfl hB1.own.drew hn _ _ (kI k) rfl rfl (keyI hk) _ [] (regsR_mk ⟨_, _, _, _, _, _, _, _, rfl⟩) ?_; intro w2 hown2 hg2)
  go_end0
  exact ⟨rfl, ⟨hg2.cell (w := w1.drew) hptr1 (by simpa using Ne.symm (Ne.symm hne)), Nat.lt_of_lt_of_le hB1.lt hg2.size, hne, hown2⟩, (hg1.but (some b)).trans ⟨hg2.os, hg2.tape, hg2.output, hg2.size, hg2.block⟩⟩

set_option maxRecDepth 100000 in
set_option maxHeartbeats 2000000 in
theorem load_calls (B b n : Nat) (k : Int) (D : DataW Value) (w : World) (h : BankAt w B b n D) (hk : (Lit.int .i64 k).wf = true) :
    Calls Try.prog 96 #[.pointer (some ⟨B, 0, none⟩), .int .i64 k] w fun e w' => ∃ v, e = .returned (.tuple #[v, .bool (Maps.has D (kI k))]) ∧ IsRegs v ∧ D.atKey (kI k) (.held zeroRegs) = .held v ∧ w.grownBy w' none := by
  obtain ⟨hptr, hlt, hne, hown⟩ := h
  generalize hhas : Maps.has D (kI k) = has
  go_enter Try.func96, Try.ntmps96
  go_wp2_with (first
    | (at_lookup; refine wpList_lookup_own_ok _ rfl _ _ 180 rfl 3 86 law3B Try.underlying180 _ (zeroR _) (.held zeroRegs) [] (regsR_mk zeroRegs_is) b n D rfl (hown.alloc _) _ _ rfl (keyI hk) ?_; intro v ps hv; obtain ⟨⟨x0, x1, x2, x3, x4, x5, x6, x7, hvv⟩, hat, _⟩ := regsR_inv hv; rw [hvv, hhas]; clear hv)
    | go_in)
  refine bodyPost_ret_by (v := .tuple #[v, .bool has]) ?_ rfl ?_
  · rw [hvv]; simp only [results, Try.f96]; go_simp
  · exact ⟨_, rfl, ⟨_, _, _, _, _, _, _, _, hvv⟩, hat, (World.grownBy_alloc w _ none).trans (World.grownBy_alloc _ _ none)⟩

set_option maxRecDepth 100000 in
set_option maxHeartbeats 2000000 in
theorem newBank_calls (w : World) : Calls Try.prog 89 #[] w fun e w' => ∃ B b, e = .returned (.pointer (some ⟨B, 0, none⟩)) ∧ BankAt w' B b 0 (.map []) ∧ w.heap.size ≤ B ∧ w.heap.size ≤ b ∧ w.grownBy w' none := by
  go_enter Try.func89, Try.ntmps89
  have hmm := @run_makeMap Try.prog
  go_wp2_with go_in
  clear hmm
  go_ret
  refine ⟨_, _, rfl, ⟨by go_simp, by simp, by simp, (World.ownsMap_made w Try.prog 3 regsR).alloc _⟩, by simp, Nat.le_refl _, (World.grownBy_alloc w _ none).trans (World.grownBy_alloc _ _ none)⟩

end Go.Proofs.Ythhfokbfdeghpaa
