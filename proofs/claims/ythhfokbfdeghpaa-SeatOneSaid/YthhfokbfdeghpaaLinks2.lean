/-
  chain.Links: how many pairs it tells, whatever the order in which the map is ranged over: the walk.
-/
import Derived.Test.YthhfokbfdeghpaaLinks
namespace Go.Proofs.Ythhfokbfdeghpaa
open Go Go.RowKit Go.Maps Go.Sort Go.Shelf Go.Lib
set_option linter.unusedVariables false

theorem law3L : Keyed Try.prog 3 := int_keyed Try.underlying3

theorem flatL_get : ∀ (ps : List (Int × Int)) (i : Nat), i < ps.length * 2 → ∀ h2 : i < (ps.flatMap encL).length, (encL ps.toArray[i / 2]!)[i % 2]! = (ps.flatMap encL)[i]
  | [], i, h, _ => by simp at h
  | p :: r, i, h, h2 => by
    by_cases hi : i < 2
    · have : i = 0 ∨ i = 1 := by omega
      rcases this with rfl | rfl <;> simp [encL]
    · obtain ⟨j, rfl⟩ : ∃ j, i = j + 2 := ⟨i - 2, by omega⟩
      have h1' : j < r.length * 2 := by simp only [List.length_cons] at h; omega
      have h2' : j < (r.flatMap encL).length := by simp [encL] at h2 ⊢; omega
      have := flatL_get r j h1' h2'
      have e3 : ((p :: r).toArray)[j / 2 + 1]! = (r.toArray)[j / 2]! := by simp
      rw [show (j + 2) / 2 = j / 2 + 1 by omega, show (j + 2) % 2 = j % 2 by omega, e3, this]
      simp [encL]

theorem flatL_len (ps : List (Int × Int)) : (ps.flatMap encL).length = ps.length * 2 := by
  induction ps with
  | nil => rfl
  | cons p r ih => simp only [List.length_cons, List.flatMap_cons, List.length_append, ih]; simp [encL]; omega

theorem flatL (ps : List (Int × Int)) : (flatK encL 2 ps.toArray).toList = ps.flatMap encL := by
  apply List.ext_getElem
  · rw [flatL_len]; simp
  · intro i h1 h2
    simp only [Array.length_toList, size_flatK, List.size_toArray] at h1
    rw [← flatL_get ps i h1 h2, ← get_flatK encL 2 ps.toArray i (by simpa using h1)]
    have h3 : i < (flatK encL 2 ps.toArray).size := by simp; exact h1
    rw [getElem!_pos _ i h3]
    simp

theorem infoL : (Try.prog.info? 95).map (fun i => (i.zero, i.size, i.bytes)) = some (some (.agg #[.int .i64 0, .int .i64 0]), 2, 16) := by kernel_rfl

theorem grownByL {w : World} {g n : Nat} {os : Array Obj} (d : Array (Int × Int)) : w.grownBy (sortWorldK encL 2 w g 0 n d os) (some g) := by
  refine ⟨rfl, rfl, rfl, by simp [sortWorldK, putRowK], fun k hk hne => ?_⟩
  unfold sortWorldK putRowK
  rw [heap_grow_old _ _ (by simpa using hk)]
  have : g ≠ k := fun e => hne (by rw [e])
  simp [putRow, mapBlock, Sort.ahead, Array.getElem?_modify, this]

theorem holdsL {w : World} {g : Nat} {cur : Array Value} {e : TypeId} {ps : List (Int × Int)} (hb : w.heap[g]? = some (.cells cur e (0, 0))) (ht : cur.toList.take (ps.length * 2) = ps.flatMap encL) : HoldsK encL 2 w g 0 ps.toArray := by
  intro j hj
  have hj' : j < ps.length * 2 := by simpa using hj
  refine ⟨?_, by simp [World.frozen?, hb]⟩
  have h1 : (cur.toList.take (ps.length * 2))[j]? = (ps.flatMap encL)[j]? := by rw [ht]
  rw [List.getElem?_take_of_lt hj'] at h1
  simp only [World.cell?, hb, Nat.zero_add]
  simp only [Option.isSome_none, Bool.false_eq_true, if_false]
  rw [← Array.getElem?_toList, h1, ← flatL, Array.getElem?_toList, Array.getElem?_eq_getElem hj, getElem!_pos _ j hj]
  rfl

theorem sizeL {H : Type} {w : World} {b n : Nat} {D0 : DataW H} {R : Value → Option (DataW H × List MemPlace)} (hown : w.ownsMap Try.prog 3 R b n D0) {l : List Int} (h : l.Perm (intKeys D0)) : l.length = Maps.size D0 := by
  obtain ⟨es, rfl, _⟩ := hown.entries law3L
  rw [h.length_eq]
  simp [intKeys, Maps.size]

set_option maxRecDepth 100000 in
set_option maxHeartbeats 2000000 in
/-- Whatever the order: so many pairs as the map has entries. -/
theorem links_calls {H : Type} (cb co b n : Nat) (D0 : DataW H) (w : World) (c0 : w.cell? ⟨cb, co, none⟩ = some (.map (some b))) (hown : w.ownsMap Try.prog 3 (plainElem Try.prog 3) b n D0) (hmax : Maps.size D0 ≤ 100000) :
    Calls Try.prog 101 #[.pointer (some ⟨cb, co, none⟩)] w fun e w' => ∃ v, e = .returned v ∧ ((Maps.size D0 = 0 ∧ v = .slice none 0 0) ∨ ∃ g cap, v = .slice (some ⟨g, 0, none⟩) (Maps.size D0) cap ∧ 0 < Maps.size D0 ∧ Maps.size D0 ≤ cap ∧ w.heap.size ≤ g ∧ g < w'.heap.size) ∧ Below w.heap.size w w' := by
  obtain ⟨i0, hi, hz0, hz1, hz2⟩ := info_parts infoL
  have hbl := hown.lt
  go_enter Try.func101, Try.ntmps101
  go_wp2_with (first
    | (at_range; refine wpList_range_own _ rfl _ 183 rfl 3 3 law3L Try.underlying183 _ b n _ rfl hown ?_; intro w0 hrg0 hg0 hs0)
    | go_in)
  go_frame
  go_loopw [2] (fun v wr => ∃ (left : Lit → Bool) (cnt : Nat) (ps : List (Int × Int)), wr.ranges Try.prog 3 (plainElem Try.prog 3) b w.heap.size n D0 left cnt ∧ ps.length + cnt ≤ Maps.size D0 ∧
      wr.ownsRow w.heap.size 95 2 v ps.length (ps.flatMap encL) ∧ (ps = [] → v = .slice none 0 0) ∧ CollectedI D0 left (ps.map (·.1)) ∧ Below w.heap.size w wr)
    (fun _ wr => wr.rangeLeft b w.heap.size)
  case atStart => exact ⟨_, _, [], hrg0, by simp, World.ownsRow_nil _ _ _ _, fun _ => rfl, CollectedI.start D0, (Below.refl _ _).grown hg0 (Nat.le_refl _) (fun j hj => by cases hj)⟩
  case round =>
    obtain ⟨left, cnt, ps, hrg, hcs, hrow, hne, hC, hnx⟩ := hrel
    go_wp2_with (first
      | (at_next; refine wpList_next_ranges_ii _ rfl _ rfl 3 3 .i64 .i64 law3L Try.underlying3 Try.underlying3 b w.heap.size n _ _ _ rfl hrg ?_ ?_)
      | go_in)
    · -- nothing is left
      intro hc0 hl0
      rcases hrow.2 with ⟨rfl, hz⟩ | ⟨g, cap, cur, rfl, hbase, hb, h1, h2, h3, h4⟩
      · have hc := AnyF.slices_SortFunc_none Try.sortL none 0 (.func (.func 120) #[] #[]) wr
        change Calls Try.prog 119 _ _ _ at hc
        go_wp2_with (go_at_call 119; refine hc.mono ?_; rintro e w' ⟨rfl, rfl⟩)
        go_ret
        have hlen : ps.length = Maps.size D0 := by
          have := sizeL hown (hC.perm hown law3L Try.underlying3 hl0)
          simpa using this
        exact ⟨_, rfl, .inl ⟨by omega, rfl⟩, hnx⟩
      · have hpos : 0 < ps.length := by
          cases ps with
          | nil => have := hne rfl; cases this
          | cons p r => simp
        clear hne
        have hH : HoldsK encL 2 wr g 0 ps.toArray := holdsL hb h4
        have hgl : g < wr.heap.size := (Array.getElem?_eq_some_iff.1 hb).1
        have hc : Calls Try.prog 119 #[.slice (some ⟨g, 0, none⟩) ps.length cap, .func (.func 120) #[] #[]] wr fun e w' => e = .returned (.tuple #[]) ∧ wr.grownBy w' (some g) := by
          have hc0 := sort_callsL g 0 cap ps.toArray wr hH hgl (by simp; omega)
          rw [List.size_toArray] at hc0
          refine Calls.mono hc0 ?_
          intro e w' hq
          obtain ⟨he, d', nn, os, _, hw'⟩ := hq
          refine ⟨he, ?_⟩
          rw [hw']
          exact grownByL d'
        clear hH
        go_wp2_with (go_at_call 119; refine hc.mono ?_; rintro e w' ⟨rfl, hgr⟩)
        go_ret
        have hlen : ps.length = Maps.size D0 := by
          have := sizeL hown (hC.perm hown law3L Try.underlying3 hl0)
          simpa using this
        exact ⟨_, rfl, .inr ⟨g, cap, by rw [hlen]; rfl, by rw [← hlen]; exact hpos, by omega, hbase, Nat.lt_of_lt_of_le hgl hgr.size⟩, hnx.grown hgr hnx.size (fun j hj => by cases hj; exact hbase)⟩
    · -- an entry has come
      intro x c w2 cnt2 hwx hwc hlk hat hrg2 hlt hg2 hs2 hen
      have hrow2 := hrow.kept hg2 (Or.inr (row_ne_iter hrow hrg).symm)
      clear hs2
      go_wp2_with (first
        | (at_builtin; refine wpList_append_own _ rfl _ _ 93 rfl w.heap.size 95 i0 (.agg #[.int .i64 0, .int .i64 0]) 2 16 Try.underlying93 hi hz0 hz1 hz2 rfl (by decide) _ _ _ rfl (hrow2.alloc _) ⟨w2.heap.size, 0, none⟩ 1 1 [.int .i64 x, .int .i64 c] rfl rfl (fun j u hj => by rcases j with _ | _ | j <;> simp at hj <;> subst hj <;> simp [Addr.add, World.cell?_alloc_new]) (by simp [Value.oneCell']) (by unfold maxLen at *; omega) (by omega) (by have := hnx.size; have := hg2.size; simp; omega) ?_; intro v' w3 hown' hg3 hnil3; go_frame)
        | go_in)
      have hrg3 := (hrg2.alloc _).kept hg3 (row_ne_low hrow2 hbl) (row_ne_iter hrow2 hrg2)
      go_roundw
      case rel =>
        refine ⟨_, cnt2, ps ++ [(x, c)], hrg3, by simp; omega, by simpa [encL] using hown', fun h => by simp at h, ?_, ?_⟩
        · rw [List.map_append]; exact hC.step hlk hat
        · exact ((hnx.grown hg2 hnx.size (fun j hj => by cases hj; exact Nat.le_refl _)).alloc (by have := hnx.size; have := hg2.size; omega) _).grown hg3 (by have := hnx.size; have := hg2.size; simp; omega) (fun j hj => (hrow2.lt j hj).1)
      case measure => rw [hrg3.left_eq, hrg.left_eq]; exact hlt

end Go.Proofs.Ythhfokbfdeghpaa
