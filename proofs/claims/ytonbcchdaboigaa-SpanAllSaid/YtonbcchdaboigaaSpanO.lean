/-
  What slices.Clone, slices.Sort and slices.Compact at int do in this program (the shelf's contracts, laid).
-/
import Derived.Test.YtonbcchdaboigaaSorted
import Derived.Test.YtonbcchdaboigaaGrow
import Derived.Shelf.Slices.Clone
import Derived.Shelf.Slices.CompactI
import Derived.Shelf.Lay
import Derived.Sort.OwnSortedInts
import Derived.Ground.Names2Prog
namespace Go.Proofs.Ytonbcchdaboigaa
open Go Go.RowKit Go.Shelf
set_option linter.unusedVariables false

shelf_lay Lays2.n15 Nm2 15 at Try as Try.cloneL
shelf_lay Lays2.n20 Nm2 20 at Try as Try.compactL

/-- Of rising numbers Compact leaves each once. -/
theorem compact_rises {zs : List Int} (h : zs.Pairwise (· ≤ ·)) : (Lib.compact zs).Pairwise (· < ·) ∧ ∀ x, x ∈ Lib.compact zs ↔ x ∈ zs := by
  have hget : ∀ j, j < zs.length → zs.toArray[j]! = zs.getD j 0 := fun j hj => by
    rw [getElem!_pos zs.toArray j (by simpa using hj), List.getD_eq_getElem?_getD, List.getElem?_eq_getElem hj]; simp
  have hle : ∀ i j, i ≤ j → j < zs.length → zs.getD i 0 ≤ zs.getD j 0 := fun i j hij hj => by
    rcases Nat.eq_or_lt_of_le hij with rfl | hij
    · exact Int.le_refl _
    · rw [List.getD_eq_getElem?_getD, List.getD_eq_getElem?_getD, List.getElem?_eq_getElem hj, List.getElem?_eq_getElem (by omega)]
      exact List.pairwise_iff_getElem.1 h i j (by omega) hj hij
  have hk : ∀ j, Lib.keeps zs.toArray j = true ↔ j = 0 ∨ zs.toArray[j]! ≠ zs.toArray[j - 1]! := fun j => by
    simp [Lib.keeps]
  have hmem : ∀ x, x ∈ Lib.compact zs ↔ ∃ j, j < zs.length ∧ Lib.keeps zs.toArray j = true ∧ zs.toArray[j]! = x := fun x => by
    unfold Lib.compact Lib.compactUpTo
    rw [List.mem_map]
    constructor
    · rintro ⟨j, hj, e⟩
      have := List.mem_filter.1 hj
      exact ⟨j, List.mem_range.1 this.1, this.2, e⟩
    · rintro ⟨j, hj, hkj, e⟩
      exact ⟨j, List.mem_filter.2 ⟨List.mem_range.2 hj, hkj⟩, e⟩
  refine ⟨?_, fun x => ?_⟩
  · unfold Lib.compact Lib.compactUpTo
    rw [List.pairwise_map]
    refine (List.Pairwise.filter _ List.pairwise_lt_range).imp_of_mem fun {a b} ha hb hab => ?_
    have hb' := List.mem_filter.1 hb
    have hbl := List.mem_range.1 hb'.1
    have hne := ((hk b).1 hb'.2).resolve_left (by omega)
    rw [hget b hbl, hget (b - 1) (by omega)] at hne
    rw [hget a (by omega), hget b hbl]
    have h1 := hle a (b - 1) (by omega) (by omega)
    have h2 := hle (b - 1) b (by omega) hbl
    omega
  · rw [hmem]
    constructor
    · rintro ⟨j, hj, _, rfl⟩
      rw [getElem!_pos zs.toArray j (by simpa using hj)]
      simp
    · intro hx
      obtain ⟨j0, hj0, e0⟩ := List.getElem_of_mem hx
      have hex : ∃ j, j < zs.length ∧ zs.getD j 0 = x := ⟨j0, hj0, by rw [List.getD_eq_getElem?_getD, List.getElem?_eq_getElem hj0]; exact e0⟩
      obtain ⟨j, ⟨hj, e⟩, hmin⟩ : ∃ j, (j < zs.length ∧ zs.getD j 0 = x) ∧ ∀ i, i < j → ¬ (i < zs.length ∧ zs.getD i 0 = x) := by
        obtain ⟨j, hj⟩ := hex
        induction j using Nat.strongRecOn with
        | ind j ih =>
          by_cases hsm : ∃ i, i < j ∧ i < zs.length ∧ zs.getD i 0 = x
          · obtain ⟨i, hi, h1⟩ := hsm
            exact ih i hi h1
          · exact ⟨j, hj, fun i hi h1 => hsm ⟨i, hi, h1⟩⟩
      refine ⟨j, hj, (hk j).2 ?_, by rw [hget j hj, e]⟩
      by_cases h0 : j = 0
      · exact .inl h0
      · refine .inr (fun e2 => hmin (j - 1) (by omega) ⟨by omega, ?_⟩)
        rw [hget j hj, hget (j - 1) (by omega)] at e2
        rw [← e2, e]

theorem compact_len (zs : List Int) : (Lib.compact zs).length ≤ zs.length := by
  unfold Lib.compact Lib.compactUpTo
  rw [List.length_map]
  exact Nat.le_trans (List.length_filter_le _ _) (by simp)

theorem grow_putRow {w : World} {g n : Nat} (d : Array Int) : w.grownBy (Sort.putRow (Value.int .i64) (Sort.ahead w n) g 0 d) (some g) := by
  have h := Go.grownBy_sortedI (w := w) (g := g) (n := n) (os := #[]) d
  simpa using h

theorem compactT (g cap : Nat) (zs : List Int) (w : World) (hH : Sort.Holds (Value.int .i64) w g 0 zs.toArray) (hl : zs.length ≤ 1000) (hcap : zs.length ≤ cap) :
    Calls Try.prog 74 #[.slice (some ⟨g, 0, none⟩) zs.length cap] w fun e w' => e = .returned (.slice (some ⟨g, 0, none⟩) (Lib.compact zs).length cap) ∧ (∀ j, j < (Lib.compact zs).length → w'.cell? ⟨g, j, none⟩ = some (.int .i64 ((Lib.compact zs).getD j 0))) ∧ GrowBut w w' [g] := by
  refine (Any.slices_Compact_int Try.compactL g 0 cap zs w hH (by omega) hcap).mono ?_
  rintro e w' ⟨rfl, q, rfl⟩
  have hlen := compact_len zs
  refine ⟨rfl, fun j hj => ?_, .of_some (grow_putRow _)⟩
  have hh := (Sort.holds_putRow (Value.int .i64) (Sort.ahead w q) g 0 zs.toArray (Lib.compact zs ++ List.replicate (zs.length - (Lib.compact zs).length) 0).toArray hH (by simp; omega) j (by simp; omega)).1
  rw [Nat.zero_add] at hh
  rw [hh]
  have : (Lib.compact zs ++ List.replicate (zs.length - (Lib.compact zs).length) 0).toArray[j]! = (Lib.compact zs).getD j 0 := by
    rw [getElem!_pos _ j (by simp; omega), List.getD_eq_getElem?_getD, List.getElem?_eq_getElem hj]
    simp [List.getElem_append_left hj]
  rw [this]

/-- Numbers in order, each once. -/
def tidy (zs : List Int) : List Int := Lib.compact (zs.mergeSort fun x y => decide (x ≤ y))

theorem tidy_rises (zs : List Int) : (tidy zs).Pairwise (· < ·) ∧ ∀ x, x ∈ tidy zs ↔ x ∈ zs := by
  have hs : (zs.mergeSort (fun x y => decide (x ≤ y))).Pairwise (fun x y => decide (x ≤ y) = true) := List.pairwise_mergeSort (fun a b c h1 h2 => by simp at *; omega) (fun a b => by simp; omega) zs
  have h := compact_rises (hs.imp fun {a b} h => by simpa using h)
  exact ⟨h.1, fun x => by rw [show (x ∈ tidy zs) = (x ∈ Lib.compact (zs.mergeSort fun x y => decide (x ≤ y))) from rfl, h.2 x, List.mem_mergeSort]⟩

theorem sortT {w : World} {base g cap : Nat} {ss : List Int} (hrow : w.ownsRow base 3 1 (.slice (some ⟨g, 0, none⟩) ss.length cap) ss.length (ss.map (Value.int .i64))) (hlen : ss.length < 1000000) :
    Calls Try.prog 73 #[.slice (some ⟨g, 0, none⟩) ss.length cap] w fun e w' => e = .returned (.tuple #[]) ∧ w'.ownsRow base 3 1 (.slice (some ⟨g, 0, none⟩) ss.length cap) ss.length ((ss.mergeSort (fun x y => decide (x ≤ y))).map (Value.int .i64)) ∧ GrowBut w w' [g] := by
  rcases hrow.2 with ⟨h0, _⟩ | ⟨gb, cap', cur, hv, hbase, hgb, r1, r2, r3, r4⟩
  · cases h0
  · cases hv
    have hH : Sort.Holds (Value.int .i64) w g 0 ss.toArray := Go.holds_of_blockI hgb (by simpa using r4)
    have hgl : g < w.heap.size := (Array.getElem?_eq_some_iff.1 hgb).1
    refine (AnyM.slices_Sort_int Try.sortP g 0 cap ss w hH hgl (by omega)).mono fun e w' ⟨he, nn, os, hw⟩ => ⟨he, ?_, ?_⟩
    · rw [hw]; exact Go.ownsRow_sortedI (by simp) hbase hgb r1 r2 r3
    · rw [hw]; exact .of_some (Go.grownBy_sortedI _)

theorem cloneT (b off c : Nat) (zs : List Int) (w : World) (hc : ∀ j, j < zs.length → w.cell? ⟨b, off + j, none⟩ = some (.int .i64 (zs.getD j 0))) (hl : zs.length ≤ 1000) :
    Calls Try.prog 72 #[.slice (some ⟨b, off, none⟩) zs.length c] w fun e w' => ∃ g cap, e = .returned (.slice (some ⟨g, 0, none⟩) zs.length cap) ∧ w'.ownsRow w.heap.size 3 1 (.slice (some ⟨g, 0, none⟩) zs.length cap) zs.length (zs.map (Value.int .i64)) ∧ w.heap.size ≤ g ∧ zs.length ≤ cap ∧ GrowBut w w' [] := by
  refine (Any.slices_Clone_int Try.cloneL b off zs.length c zs w (Nat.le_refl _) (by omega) hc).mono ?_
  rintro e w' ⟨v, rfl, hrow, hne, hb⟩
  rw [List.take_length] at hrow
  rcases hrow.2 with ⟨h0, _⟩ | ⟨g, cap, cur, hv, hbase, hgb, r1, r2, r3, r4⟩
  · exact absurd h0 hne
  · subst hv
    exact ⟨g, cap, rfl, hrow, hbase, r1, .of_below hb⟩

theorem cloneT_nil (c : Nat) (w : World) : Calls Try.prog 72 #[.slice none 0 c] w fun e w' => e = .returned (.slice none 0 0) ∧ w' = w := Any.slices_Clone_int_nil Try.cloneL 0 c w

theorem compactR {w : World} {base g cap : Nat} {ss : List Int} (hrow : w.ownsRow base 3 1 (.slice (some ⟨g, 0, none⟩) ss.length cap) ss.length (ss.map (Value.int .i64))) (hl : ss.length ≤ 1000) :
    Calls Try.prog 74 #[.slice (some ⟨g, 0, none⟩) ss.length cap] w fun e w' => e = .returned (.slice (some ⟨g, 0, none⟩) (Lib.compact ss).length cap) ∧ (∀ j, j < (Lib.compact ss).length → w'.cell? ⟨g, j, none⟩ = some (.int .i64 ((Lib.compact ss).getD j 0))) ∧ GrowBut w w' [g] := by
  rcases hrow.2 with ⟨h0, _⟩ | ⟨gb, cap', cur, hv, hbase, hgb, r1, r2, r3, r4⟩
  · cases h0
  · cases hv
    exact compactT g cap ss w (Go.holds_of_blockI hgb (by simpa using r4)) hl r1

end Go.Proofs.Ytonbcchdaboigaa
