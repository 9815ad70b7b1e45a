/-
  Package span: Meets of two rows; begun.
-/
import Derived.Test.YtlcmcdgbidiicaaSpanC
import Derived.Shelf.SlicesE.IndexFunc
import Derived.Shelf.Slices.Turned
import Derived.Shelf.Lay
import Derived.Ground.NamesProg
import Derived.Ground.SlgfProg
namespace Go.Proofs.Ytlcmcdgbidiicaa
open Go Go.RowKit Go.Maps Go.Am Go.Shelf
set_option linter.unusedVariables false

theorem begunSpan_true (w : World) : Calls Try.prog 71 #[] w (fun e w' => e = .returned (.bool true) ∧ Below w.heap.size w w') :=
  calls_runP (σ := fun _ => (.i64, 0)) (n := 1000) (args := []) (us := #[]) w noPrims_ok noFacts_ok (by kernel_rfl) rfl (by kernel_rfl)

shelf_lay Lays.n107 Nm 107 at Try as Try.containsL
shelf_lay_g SlLaysH.n8 Slgf 8 at Try 133 as Try.containsF

theorem row_cellsS {w : World} {base k : Nat} {v : Value} {L : List Int} (hrow : w.ownsRow base 3 1 v k (L.map (Value.int .i64))) (hk : L.length = k) (h0 : 0 < k) : ∃ g cap, v = .slice (some ⟨g, 0, none⟩) k cap ∧ base ≤ g ∧ g < w.heap.size ∧ ∀ i, i < k → w.cell? ⟨g, i, none⟩ = some (.int .i64 (L.getD i 0)) := by
  rcases hrow.2 with ⟨rfl, hz⟩ | ⟨g, cap, cur, rfl, hbase, hb, h1, h2, h3, h4⟩
  · omega
  · refine ⟨g, cap, rfl, hbase, (Array.getElem?_eq_some_iff.1 hb).1, fun i hi => ?_⟩
    have h5 : (cur.toList.take (k * 1))[i]? = (L.map (Value.int .i64))[i]? := by rw [h4]
    rw [List.getElem?_take_of_lt (by omega), List.getElem?_map] at h5
    have h6 : L[i]? = some (L.getD i 0) := by rw [List.getD_eq_getElem?_getD, List.getElem?_eq_getElem (by omega)]; rfl
    rw [h6] at h5
    simp only [World.cell?, hb]
    simpa using h5

set_option maxRecDepth 100000 in
set_option maxHeartbeats 4000000 in
theorem meets_fn (Y g d capd : Nat) (zs : List Int) (hz : zs.length = d) (hd : d ≤ 1000) (w : World) (hY : w.cell? ⟨Y, 0, none⟩ = some (.slice (some ⟨g, 0, none⟩) d capd)) (hc : ∀ j, j < d → w.cell? ⟨g, j, none⟩ = some (.int .i64 (zs.getD j 0))) (hYl : Y < w.heap.size) (hgl : g < w.heap.size) :
    PredAt Try.prog 134 #[.pointer (some ⟨Y, 0, none⟩)] (Value.int .i64) (fun x : Int => zs.contains x) w := by
  intro W x hW
  have hG : GrowBut w W [] := .of_below hW
  have hY' := hG.cell hY (by simp)
  have hcs := Any.slices_Contains_int Try.containsL g 0 d capd zs x W (by omega) (by omega) (fun j hj => by rw [Nat.zero_add]; exact hG.cell (hc j (by omega)) (by simp))
  have htk : zs.take d = zs := List.take_of_length_le (by omega)
  rw [htk] at hcs
  show Calls Try.prog 134 #[.int .i64 x, .pointer (some ⟨Y, 0, none⟩)] W _
  generalize hans : zs.contains x = ans at hcs
  go_enter Try.func134, Try.ntmps134
  go_wp2_with (first
    | (go_at_call 135; refine hcs.mono ?_; rintro e w1 ⟨rfl, hw1⟩; rw [hw1]; clear hw1 w1)
    | go_in)
  go_ret
  subst hans
  exact ⟨rfl, 0, rfl⟩

set_option maxRecDepth 100000 in
set_option maxHeartbeats 4000000 in
theorem meets_fn0 (Y : Nat) (w : World) (hY : w.cell? ⟨Y, 0, none⟩ = some (.slice none 0 0)) : PredAt Try.prog 134 #[.pointer (some ⟨Y, 0, none⟩)] (Value.int .i64) (fun _ : Int => false) w := by
  intro W x hW
  have hG : GrowBut w W [] := .of_below hW
  have hY' := hG.cell hY (by simp)
  have hcs := Any.slices_Contains_int_empty Try.containsL none 0 x W
  show Calls Try.prog 134 #[.int .i64 x, .pointer (some ⟨Y, 0, none⟩)] W _
  go_enter Try.func134, Try.ntmps134
  go_wp2_with (first
    | (go_at_call 135; refine hcs.mono ?_; rintro e w1 ⟨rfl, hw1⟩; rw [hw1]; clear hw1 w1)
    | go_in)
  go_ret
  exact ⟨rfl, 0, rfl⟩

theorem any_rows (p c q d : Nat) (hc : 1 ≤ c) (hd : 1 ≤ d) : (rowOf p c).any (fun x => (rowOf q d).contains x) = (decide (p < q + d) && decide (q < p + c)) := by
  rw [Bool.eq_iff_iff, List.any_eq_true, Bool.and_eq_true, decide_eq_true_eq, decide_eq_true_eq]
  constructor
  · rintro ⟨x, hx, hy⟩
    rw [List.contains_iff_mem] at hy
    rw [mem_rowOf] at hx hy
    omega
  · rintro ⟨h1, h2⟩
    refine ⟨((max p q : Nat) : Int), ?_, ?_⟩
    · rw [mem_rowOf]; omega
    · rw [List.contains_iff_mem, mem_rowOf]; omega

set_option maxRecDepth 100000 in
set_option maxHeartbeats 4000000 in
theorem meets_calls (S1 cap1 p c S2 cap2 q d : Nat) (w : World) (h0 : w.cell? ⟨S1, 0, none⟩ = some (.int .i64 p)) (h1 : w.cell? ⟨S1, 1, none⟩ = some (.int .i64 c)) (hc : 1 ≤ c) (hc40 : c ≤ 40) (hpc : p + c ≤ 4096)
    (k0 : w.cell? ⟨S2, 0, none⟩ = some (.int .i64 q)) (k1 : w.cell? ⟨S2, 1, none⟩ = some (.int .i64 d)) (hd : 1 ≤ d) (hd40 : d ≤ 40) (hqd : q + d ≤ 4096) :
    Calls Try.prog 80 #[.slice (some ⟨S1, 0, none⟩) 1 cap1, .slice (some ⟨S2, 0, none⟩) 1 cap2] w fun r w' => r = .returned (.bool (decide (p < q + d) && decide (q < p + c))) ∧ GrowBut w w' [] := by
  have hP1 := Pages1_calls S1 cap1 p c w h0 h1 hc hc40 hpc
  have hP2 := fun w1 (hg : GrowBut w w1 []) => Pages1_calls S2 cap2 q d w1 (hg.cell k0 (by simp)) (hg.cell k1 (by simp)) hd hd40 hqd
  go_enter Try.func80, Try.ntmps80
  go_upto_region 2 with (first
    | (go_at_call 75; refine hP1.mono ?_; clear hP1; rintro r w1 ⟨v1, rfl, hrow1, hg1⟩; obtain ⟨g1, cp1, rfl, hb1, hl1, hc1⟩ := row_cellsS hrow1 (rowOf_len p c) (by omega))
    | (go_at_call 75; refine (hP2 w1 hg1).mono ?_; rintro r w2 ⟨v2, rfl, hrow2, hg2⟩; obtain ⟨g2, cp2, rfl, hb2, hl2, hc2⟩ := row_cellsS hrow2 (rowOf_len q d) (by omega))
    | go_in)
  have hG3 := GrowBut.alloc w2 (.cells #[.slice (some ⟨g2, 0, none⟩) d cp2] 57) []
  have hbox : (w2.alloc (.cells #[.slice (some ⟨g2, 0, none⟩) d cp2] 57)).cell? ⟨w2.heap.size, 0, none⟩ = some (.slice (some ⟨g2, 0, none⟩) d cp2) := by go_simp
  have hpred := meets_fn w2.heap.size g2 d cp2 (rowOf q d) (rowOf_len q d) (by omega) (w2.alloc (.cells #[.slice (some ⟨g2, 0, none⟩) d cp2] 57)) hbox (fun j hj => hG3.cell (hc2 j hj) (by simp)) (by simp) (by simp; omega)
  have hcf := AnyE.slices_ContainsFunc Try.containsF (Value.int .i64) (fun x : Int => (rowOf q d).contains x) 134 #[.pointer (some ⟨w2.heap.size, 0, none⟩)] (enters_of Try.func134 (by kernel_rfl) rfl) g1 0 c cp1 (rowOf p c) _ hpred (by rw [rowOf_len]; exact Nat.le_refl _) (by omega) (fun j hj => by
    rw [rowOf_len] at hj
    have := hG3.cell (hg2.cell (hc1 j hj) (by simp)) (by simp)
    rw [Nat.zero_add, this]
    rw [List.getD_eq_getElem?_getD, List.getElem!_eq_getElem?_getD]
    rfl)
  rw [List.take_of_length_le (by rw [rowOf_len]; exact Nat.le_refl _), any_rows p c q d hc hd] at hcf
  generalize hans : (decide (p < q + d) && decide (q < p + c)) = ans at hcf
  go_wp2_with (first
    | (go_at_call 133; refine hcf.mono ?_; rintro r w4 ⟨rfl, qq, rfl⟩)
    | go_in)
  go_ret
  subst hans
  exact ⟨rfl, (hg1.trans (hg2.trans hG3)).trans (GrowBut.drewN _ _ _)⟩

set_option maxRecDepth 100000 in
set_option maxHeartbeats 4000000 in
theorem meets0_calls (S1 cap1 p c : Nat) (w : World) (h0 : w.cell? ⟨S1, 0, none⟩ = some (.int .i64 p)) (h1 : w.cell? ⟨S1, 1, none⟩ = some (.int .i64 c)) (hc : 1 ≤ c) (hc40 : c ≤ 40) (hpc : p + c ≤ 4096) :
    Calls Try.prog 80 #[.slice (some ⟨S1, 0, none⟩) 1 cap1, .slice none 0 0] w fun r w' => r = .returned (.bool false) ∧ GrowBut w w' [] := by
  have hP1 := Pages1_calls S1 cap1 p c w h0 h1 hc hc40 hpc
  go_enter Try.func80, Try.ntmps80
  go_upto_region 2 with (first
    | (go_at_call 75; refine hP1.mono ?_; clear hP1; rintro r w1 ⟨v1, rfl, hrow1, hg1⟩; obtain ⟨g1, cp1, rfl, hb1, hl1, hc1⟩ := row_cellsS hrow1 (rowOf_len p c) (by omega))
    | (go_at_call 75; refine (Pages0_calls w1).mono ?_; rintro r w2 ⟨rfl, hw2⟩; rw [hw2]; clear hw2 w2)
    | go_in)
  have hG3 := GrowBut.alloc w1 (.cells #[.slice none 0 0] 57) []
  have hbox : (w1.alloc (.cells #[.slice none 0 0] 57)).cell? ⟨w1.heap.size, 0, none⟩ = some (.slice none 0 0) := by go_simp
  have hpred := meets_fn0 w1.heap.size (w1.alloc (.cells #[.slice none 0 0] 57)) hbox
  have hcf := AnyE.slices_ContainsFunc Try.containsF (Value.int .i64) (fun _ : Int => false) 134 #[.pointer (some ⟨w1.heap.size, 0, none⟩)] (enters_of Try.func134 (by kernel_rfl) rfl) g1 0 c cp1 (rowOf p c) _ hpred (by rw [rowOf_len]; exact Nat.le_refl _) (by omega) (fun j hj => by
    rw [rowOf_len] at hj
    have := hG3.cell (hc1 j hj) (by simp)
    rw [Nat.zero_add, this]
    rw [List.getD_eq_getElem?_getD, List.getElem!_eq_getElem?_getD]
    rfl)
  have hany : ((rowOf p c).take c).any (fun _ : Int => false) = false := by simp
  rw [hany] at hcf
  go_wp2_with (first
    | (go_at_call 133; refine hcf.mono ?_; rintro r w4 ⟨rfl, qq, rfl⟩)
    | go_in)
  go_ret
  exact ⟨rfl, (hg1.trans hG3).trans (GrowBut.drewN _ _ _)⟩

end Go.Proofs.Ytlcmcdgbidiicaa
