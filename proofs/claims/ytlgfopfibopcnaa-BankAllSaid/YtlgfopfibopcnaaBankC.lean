/-
  Package bank: the contracts of its methods.
-/
import Derived.Test.YtlgfopfibopcnaaSorted
import Derived.Maps.OwnSet
import Derived.Maps.RangeWalk
import Derived.WalkKit
import Derived.WalkSpells
import Derived.StillTailTactics
namespace Go.Proofs.Ytlgfopfibopcnaa
open Go Go.RowKit Go.Maps Go.Am
set_option linter.unusedVariables false

/-- Registers. -/
def IsRegs (v : Value) : Prop := ∃ x0 x1 x2 x3 x4 x5 x6 x7 : Int, v = .agg #[.int .u64 x0, .int .u64 x1, .int .u64 x2, .int .u64 x3, .int .u64 x4, .int .u64 x5, .int .u64 x6, .int .u64 x7]

open Classical in
noncomputable def regsR (v : Value) : Option (DataW Value × List MemPlace) := if IsRegs v then some (.held v, []) else none

theorem regsR_mk {v : Value} (h : IsRegs v) : regsR v = some (.held v, []) := by unfold regsR; rw [if_pos h]

theorem regsR_inv {v : Value} {d : DataW Value} {ps : List MemPlace} (h : regsR v = some (d, ps)) : IsRegs v ∧ d = .held v ∧ ps = [] := by
  unfold regsR at h
  split at h
  · rename_i hv
    cases h
    exact ⟨hv, rfl, rfl⟩
  · cases h

def zeroRegs : Value := .agg #[.int .u64 0, .int .u64 0, .int .u64 0, .int .u64 0, .int .u64 0, .int .u64 0, .int .u64 0, .int .u64 0]

theorem zeroRegs_is : IsRegs zeroRegs := ⟨0, 0, 0, 0, 0, 0, 0, 0, rfl⟩

theorem zeroR (w : World) : (zeroValue 48).run Try.prog w = .ok zeroRegs w := by kernel_rfl

theorem law3B : Keyed Try.prog 3 := int_keyed Try.underlying3

abbrev kI (k : Int) : Lit := .int .i64 k

theorem keyI {k : Int} (hk : (Lit.int .i64 k).wf = true) : keyOf Try.prog 3 (.int .i64 k) = some (kI k) := keyOf_int_mk Try.underlying3 hk

/-- A bank is at B; what it holds is D. -/
structure BankAt (w : World) (B b n : Nat) (D : DataW Value) : Prop where
  ptr : w.cell? ⟨B, 0, none⟩ = some (.map (some b))
  lt : B < w.heap.size
  ne : B ≠ b
  own : w.ownsMap Try.prog 3 regsR b n D

theorem BankAt.kept {w w' : World} {B b n : Nat} {D : DataW Value} {row : Option Nat} (h : BankAt w B b n D) (hg : w.grownBy w' row) (h1 : some b ≠ row) (h2 : some B ≠ row) : BankAt w' B b n D :=
  ⟨by have := h.ptr; unfold World.cell? at this ⊢; rw [hg.block B h.lt h2]; exact this, Nat.lt_of_lt_of_le h.lt hg.size, h.ne, h.own.kept hg h1⟩

set_option maxRecDepth 100000 in
set_option maxHeartbeats 2000000 in
theorem save_calls (B b n : Nat) (k : Int) (v : Value) (D : DataW Value) (w : World) (h : BankAt w B b n D) (hk : (Lit.int .i64 k).wf = true) (hv : IsRegs v) (hn : n < maxLen) :
    Calls Try.prog 34 #[.pointer (some ⟨B, 0, none⟩), .int .i64 k, v] w fun e w' => e = .returned (.tuple #[]) ∧ BankAt w' B b (n + 1) (D.put (kI k) (.held v)) ∧ w.grownBy w' (some b) := by
  obtain ⟨x0, x1, x2, x3, x4, x5, x6, x7, rfl⟩ := hv
  obtain ⟨hptr, hlt, hne, hown⟩ := h
  go_enter Try.func34, Try.ntmps34
  go_wp2_with go_in
  obtain ⟨w1, hw1⟩ : ∃ w1, w1 = w.alloc (.cells #[.int .u64 x0, .int .u64 x1, .int .u64 x2, .int .u64 x3, .int .u64 x4, .int .u64 x5, .int .u64 x6, .int .u64 x7] 48) := ⟨_, rfl⟩
  have hg1 : w.grownBy w1 none := hw1 ▸ World.grownBy_alloc w _ none
  have hB1 := (BankAt.mk hptr hlt hne hown).kept hg1 (by simp) (by simp)
  have c0 : w1.cell? ⟨w.heap.size, 0, none⟩ = some (.int .u64 x0) := by rw [hw1]; go_simp
  have c1 : w1.cell? ⟨w.heap.size, 1, none⟩ = some (.int .u64 x1) := by rw [hw1]; go_simp
  have c2 : w1.cell? ⟨w.heap.size, 2, none⟩ = some (.int .u64 x2) := by rw [hw1]; go_simp
  have c3 : w1.cell? ⟨w.heap.size, 3, none⟩ = some (.int .u64 x3) := by rw [hw1]; go_simp
  have c4 : w1.cell? ⟨w.heap.size, 4, none⟩ = some (.int .u64 x4) := by rw [hw1]; go_simp
  have c5 : w1.cell? ⟨w.heap.size, 5, none⟩ = some (.int .u64 x5) := by rw [hw1]; go_simp
  have c6 : w1.cell? ⟨w.heap.size, 6, none⟩ = some (.int .u64 x6) := by rw [hw1]; go_simp
  have c7 : w1.cell? ⟨w.heap.size, 7, none⟩ = some (.int .u64 x7) := by rw [hw1]; go_simp
  have hptr1 := hB1.ptr
  rw [← hw1]
  clear hw1
  go_still_tail 6, (by kernel_rfl)
  change wpList _ _ _ _ _ w1.drew
  go_wp2_with (at_mapUpdate; refine wpList_mapUpdate_own _ rfl _ _ _ 44 rfl 3 48 law3B Try.underlying44 regsR b n D rfl hB1.own.drew hn _ _ (kI k) rfl rfl (keyI hk) _ [] (regsR_mk ⟨_, _, _, _, _, _, _, _, rfl⟩) ?_; intro w2 hown2 hg2)
  go_end0
  exact ⟨rfl, ⟨hg2.cell (w := w1.drew) hptr1 (by simpa using Ne.symm (Ne.symm hne)), Nat.lt_of_lt_of_le hB1.lt hg2.size, hne, hown2⟩, (hg1.but (some b)).trans ⟨hg2.os, hg2.tape, hg2.output, hg2.size, hg2.block⟩⟩

set_option maxRecDepth 100000 in
set_option maxHeartbeats 2000000 in
theorem load_calls (B b n : Nat) (k : Int) (D : DataW Value) (w : World) (h : BankAt w B b n D) (hk : (Lit.int .i64 k).wf = true) :
    Calls Try.prog 36 #[.pointer (some ⟨B, 0, none⟩), .int .i64 k] w fun e w' => ∃ v, e = .returned (.tuple #[v, .bool (Maps.has D (kI k))]) ∧ IsRegs v ∧ D.atKey (kI k) (.held zeroRegs) = .held v ∧ w.grownBy w' none := by
  obtain ⟨hptr, hlt, hne, hown⟩ := h
  generalize hhas : Maps.has D (kI k) = has
  go_enter Try.func36, Try.ntmps36
  go_wp2_with (first
    | (at_lookup; refine wpList_lookup_own_ok _ rfl _ _ 44 rfl 3 48 law3B Try.underlying44 _ (zeroR _) (.held zeroRegs) [] (regsR_mk zeroRegs_is) b n D rfl (hown.alloc _) _ _ rfl (keyI hk) ?_; intro v ps hv; obtain ⟨⟨x0, x1, x2, x3, x4, x5, x6, x7, hvv⟩, hat, _⟩ := regsR_inv hv; rw [hvv, hhas]; clear hv)
    | go_in)
  refine bodyPost_ret_by (v := .tuple #[v, .bool has]) ?_ rfl ?_
  · rw [hvv]; simp only [results, Try.f36]; go_simp
  · exact ⟨_, rfl, ⟨_, _, _, _, _, _, _, _, hvv⟩, hat, (World.grownBy_alloc w _ none).trans (World.grownBy_alloc _ _ none)⟩

set_option maxRecDepth 100000 in
set_option maxHeartbeats 2000000 in
theorem drop_calls (B b n : Nat) (k : Int) (D : DataW Value) (w : World) (h : BankAt w B b n D) (hk : (Lit.int .i64 k).wf = true) :
    Calls Try.prog 32 #[.pointer (some ⟨B, 0, none⟩), .int .i64 k] w fun e w' => e = .returned (.bool (Maps.has D (kI k))) ∧ BankAt w' B b n (D.del (kI k)) ∧ w.grownBy w' (some b) := by
  have hL := load_calls B b n k D w h hk
  have hdn := Maps.del_of_not_has (D := D) (k := kI k)
  generalize hhas : Maps.has D (kI k) = has at hL hdn ⊢
  go_enter Try.func32, Try.ntmps32
  go_wp2_with (first
    | (go_at_call 36; refine hL.mono ?_; rintro e w1 ⟨v, rfl, ⟨x0, x1, x2, x3, x4, x5, x6, x7, rfl⟩, _, hg1⟩; have hB1 := (h.kept hg1 (by simp) (by simp)).kept (World.grownBy_alloc w1 (.cells #[.int .u64 x0, .int .u64 x1, .int .u64 x2, .int .u64 x3, .int .u64 x4, .int .u64 x5, .int .u64 x6, .int .u64 x7] 48) none) (by simp) (by simp); have hptr1 := hB1.ptr)
    | (at_delete; refine wpList_delete_own _ rfl _ _ 44 3 rfl 48 law3B Try.underlying44 _ b n D rfl hB1.own _ _ rfl (keyI hk) ?_; intro w2 hown2 hturn2)
    | go_in)
  · rename_i ht
    subst ht
    go_ret
    exact ⟨rfl, ⟨hturn2.grown.cell hptr1 (by simpa using hB1.ne), Nat.lt_of_lt_of_le hB1.lt hturn2.grown.size, hB1.ne, hown2⟩, ((hg1.but _).trans (World.grownBy_alloc _ _ _)).trans hturn2.grown⟩
  · rename_i hf
    rw [hdn hf]
    go_ret
    exact ⟨rfl, hB1, (hg1.but _).trans (World.grownBy_alloc _ _ _)⟩

/-! ### Who -/
shelf_lay_g SlLaysZI.n7 Ggz 7 at Try 156 as Try.keysB

theorem sorted_callsB {H : Type} (Bm b nn : Nat) (D0 : DataW H) (R : Value → Option (DataW H × List MemPlace)) (w : World) (hBm : Bm < w.heap.size) (hm : w.cell? ⟨Bm, 0, none⟩ = some (.map (some b))) (hown : w.ownsMap Try.prog 3 R b nn D0)
    (hmax : Maps.size D0 ≤ maxLen) (hbytes : Maps.size D0 * 8 ≤ 140737488355328) :
    Calls Try.prog 155 #[.func (.func 221) #[] #[.pointer (some ⟨Bm, 0, none⟩)]] w fun e w' => ∃ (v : Value) (ss : List Int), e = .returned v ∧ ss.Perm (intKeys D0) ∧
      w'.ownsRow w.heap.size 3 1 v ss.length ((ss.mergeSort (fun x y => decide (x ≤ y))).map encZ) ∧ (v = .slice none 0 0 ↔ ss = []) ∧ Below w.heap.size w w' := by
  have hseq : SeqGives Fence.wide 2 Try.prog 221 #[.pointer (some ⟨Bm, 0, none⟩)] encZ (fun ss => ss.Perm (intKeys D0)) (Maps.size D0) w :=
    AnyZI.keys_gives (ρ := Try.keysB_ren) { Try.keysB with } Fence.wide _ trivial rfl (by omega) Bm b nn D0 w hBm hm hown
  exact (callsIn_wide (n := 5)).1 (AnyZI.sorted_in Try.sortedP Fence.wide 5 trivial trivial trivial trivial rfl (by omega) (sorts _) (enters_of Try.func164 (by kernel_rfl) rfl) 221 #[.pointer (some ⟨Bm, 0, none⟩)] trivial (enters_of Try.func221 (by kernel_rfl) rfl) _ _ hmax hbytes w hseq)

theorem keys_callsB (mb : Option Nat) (w : World) : Calls Try.prog 156 #[.map mb] w fun e w' => e = .returned (.func (.func 221) #[] #[.pointer (some ⟨w.heap.size, 0, none⟩)]) ∧ w' = w.alloc (.cells #[.map mb] 44) :=
  (callsIn_wide (n := 5)).1 (AnyZI.keys_in Try.keysB Fence.wide 5 trivial rfl mb w)

theorem below_grownB {w w' : World} (h : Below w.heap.size w w') : w.grownBy w' none := ⟨h.os, h.tape, h.output, h.size, fun k hk _ => h.block k hk⟩

set_option maxRecDepth 100000 in
set_option maxHeartbeats 2000000 in
theorem who_calls (B b n : Nat) (D : DataW Value) (w : World) (h : BankAt w B b n D) (hn : n ≤ 100000) :
    Calls Try.prog 37 #[.pointer (some ⟨B, 0, none⟩)] w fun e w' => ∃ (v : Value) (ss : List Int), e = .returned v ∧ ss.Perm (intKeys D) ∧
      w'.ownsRow w.heap.size 3 1 v ss.length ((ss.mergeSort (fun x y => decide (x ≤ y))).map encZ) ∧ (v = .slice none 0 0 ↔ ss = []) ∧ w.grownBy w' none := by
  have hptr := h.ptr
  have hsz := h.own.size_le
  have hk := keys_callsB (some b) w
  have hs := sorted_callsB w.heap.size b n D regsR (w.alloc (.cells #[.map (some b)] 44)) (by simp) (by go_simp) (h.own.alloc _) (by unfold maxLen; omega) (by omega)
  go_enter Try.func37, Try.ntmps37
  go_wp2_with (first
    | (go_at_call 156; refine hk.mono ?_; rintro e w1 ⟨rfl, rfl⟩)
    | (go_at_call 155; refine hs.mono ?_; rintro e w2 ⟨v, ss, rfl, hp, hrow, hnil, hb⟩)
    | go_in)
  go_ret
  exact ⟨_, ss, rfl, hp, ⟨hrow.1, by
    rcases hrow.2 with h1 | ⟨g, cap, cur, e1, e2, e3⟩
    · exact .inl h1
    · exact .inr ⟨g, cap, cur, e1, by simp at e2; omega, e3⟩⟩, hnil, (World.grownBy_alloc w _ none).trans (below_grownB hb)⟩

end Go.Proofs.Ytlgfopfibopcnaa
