/-
  The sorted keys of a map, as the rising list of them.
-/
import Derived.Test.YtonbcchdaboigaaTab
import Derived.Test.YtonbcchdaboigaaSorted
namespace Go.Proofs.Ytonbcchdaboigaa
open Go Go.RowKit Go.Maps Go.Am
set_option linter.unusedVariables false

/-- The keys of a map of pages, sorted: the rising list of them. -/
theorem sortedT (Bm b n : Nat) (f : Int → Option Value) (L : List Int) (w : World) (hm : w.cell? ⟨Bm, 0, none⟩ = some (.map (some b))) (h : TabAt w .i64 3 b n f) (hn : n ≤ 1000000) (hL : L.Pairwise (· < ·)) (hmem : ∀ x, x ∈ L ↔ (f x).isSome = true) :
    Calls Try.prog 105 #[.func (.func 143) #[] #[.pointer (some ⟨Bm, 0, none⟩)]] w fun e w' => ∃ v : Value, e = .returned v ∧ w'.ownsRow w.heap.size 3 1 v L.length (L.map (Value.int .i64)) ∧ GrowBut w w' [] := by
  obtain ⟨D, hown, hD⟩ := h.own
  have hBm : Bm < w.heap.size := by
    by_cases h2 : Bm < w.heap.size
    · exact h2
    · exfalso
      have h3 : w.heap[Bm]? = none := Array.getElem?_eq_none (by omega)
      simp [World.cell?, h3] at hm
  have hsz := hown.size_le
  refine (sorted_calls Bm b n D _ w hBm hm hown (by unfold maxLen; omega) (by omega)).mono ?_
  rintro e w' ⟨v, ss, rfl, hperm, hrow, _, hb⟩
  have hk3 : Keyed Try.prog 3 := int_keyed Try.underlying3
  obtain ⟨es, rfl, hpw, _⟩ := hown.entries hk3
  obtain ⟨es', hD', hko⟩ := hown.keysOf
  obtain rfl : es = es' := by simpa using hD'
  have hp : L.Perm (intKeys (.map es)) := perm_intKeys hpw (fun p hp => by obtain ⟨v, hv⟩ := hko p hp; obtain ⟨x, _, hx, _⟩ := Maps.keyOf_i64 Try.underlying3 hv; exact ⟨x, hx⟩) (hL.imp fun h => by omega) (fun x => by rw [hmem, hD.has])
  have hs : ss.mergeSort (fun x y => decide (x ≤ y)) = L := by
    refine (mergeSort_of_perm_i (hperm.trans hp.symm)).trans ?_
    refine List.mergeSort_of_pairwise (hL.imp fun h => ?_)
    simp only [decide_eq_true_eq]; omega
  have hlen : ss.length = L.length := (hperm.trans hp.symm).length_eq
  rw [hs, hlen] at hrow
  exact ⟨v, rfl, hrow, .of_below hb⟩

end Go.Proofs.Ytonbcchdaboigaa
