/-
  PactTakers: the walk.
-/
import Derived.Test.YtcoedmiichppdaaJ8
import Derived.Test.YtcoedmiichppdaaJ12
import Derived.Test.YtcoedmiichppdaaProg
import Derived.Test.YtcoedmiichppdaaRows
import Derived.WalkKit
import Derived.ProofKit
import Derived.OpenShut
import Derived.ShutString
import Derived.WideKeyArr2
import Derived.ChangeSlices
import Derived.ChangeOld
import Derived.Carry

namespace Go.Proofs.Ytcoedmiichppdaa
open Go Go.RowKit Go.Maps Go.Am
set_option linter.unusedVariables false
set_option linter.unusedSimpArgs false

set_option maxRecDepth 1000000 in
set_option maxHeartbeats 8000000 in
theorem pactTakers_walk (a0 a1 a2 a3 : Int) (zs : List Int) (p : Option Addr) (cap : Nat) (fs : List Int) (pf : Option Addr) (capf : Nat) (w : World) (ha : ∀ x ∈ [a0, a1, a2, a3], (Lit.int .u8 x).wf = true)
    (hz : ∀ i, i < zs.length → ∃ a, p = some a ∧ a.block < w.heap.size ∧ w.cell? (a.add i) = some (.int .u8 (zs.getD i 0))) (hzw : ∀ n ∈ zs, (Lit.int .u8 n).wf = true)
    (hy : ∀ i, i < fs.length → ∃ a, pf = some a ∧ a.block < w.heap.size ∧ w.cell? (a.add i) = some (.int .i64 (fs.getD i 0))) :
    Calls Try.prog 6 #[.agg #[.int .u8 a0, .int .u8 a1, .int .u8 a2, .int .u8 a3], .slice p zs.length cap, .slice pf fs.length capf] w fun e w' => e = .returned (.bool true) ∧ w.grownBy w' none := by
  have hg0 := GrowBut.alloc w (.cells #[.int .u8 a0, .int .u8 a1, .int .u8 a2, .int .u8 a3] 76) []
  by_cases h20 : 20 < zs.length ∨ 10 < fs.length
  · have h1 : (20 : Int) < (zs.length : Int) ∨ (¬ (20 : Int) < (zs.length : Int) ∧ (10 : Int) < (fs.length : Int)) := by omega
    rcases h1 with h1 | ⟨h1, h2⟩
    · go_enter Try.func6, Try.ntmps6
      go_wp2_with (first
        | (go_at_call 32; (refine (begunPact_calls _).mono ?_; rintro e wb ⟨rfl, hgb⟩))
        | fail)
      go_ret
      exact ⟨rfl, (hg0.trans hgb).keepAll⟩
    · go_enter Try.func6, Try.ntmps6
      go_wp2_with (first
        | (go_at_call 32; (refine (begunPact_calls _).mono ?_; rintro e wb ⟨rfl, hgb⟩))
        | fail)
      go_ret
      exact ⟨rfl, (hg0.trans hgb).keepAll⟩
  have h1 : ¬ (20 : Int) < (zs.length : Int) := by omega
  have h2 : ¬ (10 : Int) < (fs.length : Int) := by omega
  have hm : (Lit.int .u64 21474836481).wf = true := by decide
  obtain ⟨ps, hps⟩ : ∃ ps, ps = [a0, a1, a2, a3] := ⟨_, rfl⟩
  have hpc : ∀ k, k < 4 → (w.alloc (.cells #[.int .u8 a0, .int .u8 a1, .int .u8 a2, .int .u8 a3] 76)).cell? ⟨w.heap.size, k, none⟩ = some (.int .u8 (ps.getD k 0)) := fun k hk => by
    subst hps
    have : k = 0 ∨ k = 1 ∨ k = 2 ∨ k = 3 := by omega
    rcases this with rfl | rfl | rfl | rfl <;> go_simp
  have hpw : ∀ k, k < 4 → (Lit.int .u8 (ps.getD k 0)).wf = true := fun k hk => by
    subst hps
    have : k = 0 ∨ k = 1 ∨ k = 2 ∨ k = 3 := by omega
    rcases this with rfl | rfl | rfl | rfl <;> exact ha _ (by simp)
  clear hps ha
  go_enter Try.func6, Try.ntmps6
  go_wp2_with (first
    | (go_at_call 32; (refine (begunPact_calls _).mono ?_; rintro e wb ⟨rfl, hgb⟩))
    | (go_at_call 33; (refine (new_any wb).mono ?_; rintro e w1 ⟨P, ow1, rfl, hA1, hlo1, hg1⟩))
    | fail)
  have hG1 : GrowBut w w1 [] := (hg0.trans hgb).trans hg1
  have hw0s : (w.alloc (.cells #[.int .u8 a0, .int .u8 a1, .int .u8 a2, .int .u8 a3] 76)).heap.size = w.heap.size + 1 := by go_simp
  have hsb := hgb.size
  have hs1 := hg1.size
  have hlow : ∀ x, x < w.heap.size + 1 → ow1 x = -2 := fun x hx => hlo1 x (by omega)
  have hp1 : ∀ k, k < 4 → w1.cell? ⟨w.heap.size, k, none⟩ = some (.int .u8 (ps.getD k 0)) := fun k hk => (hgb.trans hg1).cell (hpc k hk) (by simp)
  have hg3 := (GrowBut.alloc w1 (.cells #[.int .i64 1, .int .i64 1] 55) []).trans (GrowBut.alloc _ (.cells #[.int .i64 1, .int .i64 4, .bool false, .slice none 0 0, .slice (some ⟨w1.heap.size, 0, none⟩) 1 1] 58) [])
  have hA3 := hA1.kept (ow' := owN ow1 w1 (-2)) hg3 (fun x hx => by cases hx) owN_old
  have hD3 : DealAt ((w1.alloc (.cells #[.int .i64 1, .int .i64 1] 55)).alloc (.cells #[.int .i64 1, .int .i64 4, .bool false, .slice none 0 0, .slice (some ⟨w1.heap.size, 0, none⟩) 1 1] 58)) (owN ow1 w1 (-2)) (w1.heap.size + 1) (tDj ps 0) := by
    have r8 := (World.ownsRow_lit (base := 0) (size := 2) (e := 55) w1 #[.int .i64 1, .int .i64 1] 1 (by omega) (by unfold maxLen; omega) rfl).alloc (.cells #[.int .i64 1, .int .i64 4, .bool false, .slice none 0 0, .slice (some ⟨w1.heap.size, 0, none⟩) 1 1] 58)
    refine ⟨owN_new (by omega), .slice none 0 0, .slice (some ⟨w1.heap.size, 0, none⟩) 1 1, ?_, ?_, ?_, ?_, ?_, nilRow _ _ _ _, ⟨r8, fun x hx => ?_⟩⟩
    · show World.cell? _ _ = some (.int .i64 1); go_simp
    · show World.cell? _ _ = some (.int .i64 4); go_simp
    · show World.cell? _ _ = some (.bool false); go_simp
    · go_simp
    · go_simp
    · simp [Value.ownBlock] at hx; subst hx; exact owN_new (by omega)
  have e3 : ((w1.alloc (.cells #[.int .i64 1, .int .i64 1] 55)).alloc (.cells #[.int .i64 1, .int .i64 4, .bool false, .slice none 0 0, .slice (some ⟨w1.heap.size, 0, none⟩) 1 1] 58)).cell? ⟨w1.heap.size + 1, 3, none⟩ = some (.slice none 0 0) := by go_simp
  have hv3 : ∀ v, ((w1.alloc (.cells #[.int .i64 1, .int .i64 1] 55)).alloc (.cells #[.int .i64 1, .int .i64 4, .bool false, .slice none 0 0, .slice (some ⟨w1.heap.size, 0, none⟩) 1 1] 58)).cell? ⟨w1.heap.size + 1, 3, none⟩ = some v → ∀ x, v.ownBlock = some x → w.heap.size + 1 ≤ x := fun v hv x hx => by
    rw [e3] at hv
    cases hv
    cases hx
  clear e3
  have hty3 : Typed ((w1.alloc (.cells #[.int .i64 1, .int .i64 1] 55)).alloc (.cells #[.int .i64 1, .int .i64 4, .bool false, .slice none 0 0, .slice (some ⟨w1.heap.size, 0, none⟩) 1 1] 58)) (w1.heap.size + 1) 58 := by
    have := Typed.alloc (w1.alloc (.cells #[.int .i64 1, .int .i64 1] 55)) #[.int .i64 1, .int .i64 4, .bool false, .slice none 0 0, .slice (some ⟨w1.heap.size, 0, none⟩) 1 1] 58
    have e1 : (w1.alloc (.cells #[.int .i64 1, .int .i64 1] 55)).heap.size = w1.heap.size + 1 := by go_simp
    rw [e1] at this
    exact this
  have hG3 := hG1.trans hg3
  have hlow3 : ∀ x, x < w.heap.size + 1 → owN ow1 w1 (-2) x = -2 := fun x hx => by rw [owN_old _ (by omega)]; exact hlow x hx
  have hp3 : ∀ k, k < 4 → ((w1.alloc (.cells #[.int .i64 1, .int .i64 1] 55)).alloc (.cells #[.int .i64 1, .int .i64 4, .bool false, .slice none 0 0, .slice (some ⟨w1.heap.size, 0, none⟩) 1 1] 58)).cell? ⟨w.heap.size, k, none⟩ = some (.int .u8 (ps.getD k 0)) := fun k hk => hg3.cell (hp1 k hk) (by simp)
  have hDp : w.heap.size + 1 ≤ w1.heap.size + 1 := by omega
  clear hg0 hgb hg1 hlo1 hA1 hsb hs1 hlow hp1 hpc hG1 hg3
  generalize owN ow1 w1 (-2) = owq at hA3 hD3 hlow3
  generalize w1.heap.size + 1 = D at hD3 hv3 hty3 hDp ⊢
  go_loopw [9] (fun v9 wx => ∃ (j : Nat) (ow : Nat → Int), v9 = .int .i64 j ∧ j ≤ 4 ∧ AllP wx ow P 0 (fun _ => 0) [] (fun _ => none) (fun _ => []) ∧ DealAt wx ow D (tDj ps j) ∧ Typed wx D 58 ∧ (∀ v, wx.cell? ⟨D, 3, none⟩ = some v → ∀ x, v.ownBlock = some x → w.heap.size + 1 ≤ x) ∧ (∀ k, k < 4 → wx.cell? ⟨w.heap.size, k, none⟩ = some (.int .u8 (ps.getD k 0))) ∧ GrowBut w wx [] ∧ (∀ x, x < w.heap.size + 1 → ow x = -2)) (fun v9 _ => 4 - intOf v9)
  case atStart => exact ⟨0, owq, rfl, by omega, hA3, hD3, hty3, hv3, hp3, hG3, hlow3⟩
  case round =>
    clear hA3 hD3 hty3 hv3 hp3 hG3 hlow3
    obtain ⟨j, ow, rfl, hj, hA, hDl, hty, hv, hp, hG, hlo⟩ := hrel
    by_cases hlt : j < 4
    · have hlt' : (j : Int) < 4 := by omega
      obtain ⟨X, hX, hX2⟩ := wf_u8n (hpw j hlt)
      have hcp := hp j hlt
      have hsu := tRs_succ ps j
      rw [hX] at hcp hsu
      obtain ⟨y, hy⟩ : ∃ y : Nat, 1 + (X : Int) % 7 = y := ⟨1 + X % 7, by omega⟩
      have hyw := IntWalk.i64_in (y : Int) (by omega)
      rw [hy] at hsu
      have hT1 : (X : Int).tmod 7 = (X : Int) % 7 := IntWalk.rem_in _ _ (by omega)
      have hT2 := IntWalk.i64_in ((X : Int) % 7) (by omega)
      clear hX
      obtain ⟨hDo, v7, v8, d0, d1, d2, d3, d4, r7, r8⟩ := hDl
      have hvx := hv _ d3
      obtain ⟨s7, c7, rfl⟩ := row_form r7.1
      have hlen : (tDj ps j).recvs.length = j := tRs_len ps j
      rw [hlen] at r7 d3 hvx
      have r7j : wr.ownsRow 0 52 2 (.slice s7 j c7) j (encPr (tRs ps j)) := r7.1
      clear hlen
      obtain ⟨i0, hi, hz0, hz1, hz2⟩ := info_parts infoR
      have hDr : D ∉ (Value.slice s7 j c7).ownBlock.toList := hty.ne_row r7j (by decide)
      have hPr : w.heap.size ∉ (Value.slice s7 j c7).ownBlock.toList := fun hx => by have := hvx w.heap.size (by simpa using hx); omega
      have hfz3 : wr.frozen? ⟨D, 3, none⟩ = false := by
        obtain ⟨cur, hcur⟩ := hty
        simp [World.frozen?, hcur]
      have hDlt := hty.lt
      have hSof : ∀ w' l, GrowBut wr w' l → D ∉ l → w.heap.size ∉ l → w'.cell? ⟨D, 3, none⟩ = some (.slice s7 j c7) ∧ w'.cell? ⟨w.heap.size, j, none⟩ = some (.int .u8 X) := fun w' l hg h1 h2 => ⟨hg.cell d3 h1, hg.cell hcp h2⟩
      go_upto_region 10 with fail
      refine wp_region_X 13 (fun w' => w'.cell? ⟨D, 3, none⟩ = some (.slice s7 j c7) ∧ w'.cell? ⟨w.heap.size, j, none⟩ = some (.int .u8 X)) (by kernel_rfl) ?_
      have hgd : GrowBut wr wr.drew [] := GrowBut.drew _ _
      have hS0 := hSof _ [] hgd (by simp) (by simp)
      generalize wDrew : wr.drew = wd at hgd hS0 ⊢
      refine wpAnyX_take [11, 1, 0] (i := 0) (v := .pointer (some ⟨D, 3, none⟩)) rfl (by kernel_rfl) (by kernel_rfl) (by kernel_rfl) (by kernel_rfl) (by kernel_rfl) (by kernel_rfl) (fun _ _ _ h => h) (Or.inl ⟨by rfl, fun w' hw' => (by dsimp only at hw'; obtain ⟨hw1, hw2⟩ := hw'; go_simp)⟩) hS0 ?_
      simp only [List.getElem_toArray, List.getElem_cons_succ, List.getElem_cons_zero, Act.put, List.setIfInBounds_toArray, List.set_cons_succ, List.set_cons_zero]
      refine wpAnyX_take [11, 1] (i := 1) (v := .slice s7 j c7) rfl (by kernel_rfl) (by kernel_rfl) (by kernel_rfl) (by kernel_rfl) (by kernel_rfl) (by kernel_rfl) (fun _ _ _ h => h) (Or.inl ⟨by rfl, fun w' hw' => (by dsimp only at hw'; obtain ⟨hw1, hw2⟩ := hw'; go_simp)⟩) hS0 ?_
      simp only [List.getElem_toArray, List.getElem_cons_succ, List.getElem_cons_zero, Act.put, List.setIfInBounds_toArray, List.set_cons_succ, List.set_cons_zero]
      refine wpAnyX_take [11, 10, 9, 2] (i := 2) (v := .int .i64 j) rfl (by kernel_rfl) (by kernel_rfl) (by kernel_rfl) (by kernel_rfl) (by kernel_rfl) (by kernel_rfl) (fun _ _ _ h => h) (Or.inl ⟨by rfl, fun w' hw' => (by dsimp only at hw'; obtain ⟨hw1, hw2⟩ := hw'; go_simp)⟩) hS0 ?_
      simp only [List.getElem_toArray, List.getElem_cons_succ, List.getElem_cons_zero, Act.put, List.setIfInBounds_toArray, List.set_cons_succ, List.set_cons_zero]
      refine wpAnyX_take [11, 10, 9, 8, 7, 6, 5, 4, 3] (i := 3) (v := .int .i64 j) rfl (by kernel_rfl) (by kernel_rfl) (by kernel_rfl) (by kernel_rfl) (by kernel_rfl) (by kernel_rfl) (fun _ _ _ h => h) (Or.inl ⟨by rfl, fun w' hw' => (by dsimp only at hw'; obtain ⟨hw1, hw2⟩ := hw'; go_simp)⟩) hS0 ?_
      simp only [List.getElem_toArray, List.getElem_cons_succ, List.getElem_cons_zero, Act.put, List.setIfInBounds_toArray, List.set_cons_succ, List.set_cons_zero]
      refine wpAnyX_take [11, 10, 9, 8, 7, 6, 5, 4] (i := 4) (v := .pointer (some ⟨w.heap.size, j, none⟩)) rfl (by kernel_rfl) (by kernel_rfl) (by kernel_rfl) (by kernel_rfl) (by kernel_rfl) (by kernel_rfl) (fun _ _ _ h => h) (Or.inl ⟨by rfl, fun w' hw' => (by dsimp only at hw'; obtain ⟨hw1, hw2⟩ := hw'; go_simp)⟩) hS0 ?_
      simp only [List.getElem_toArray, List.getElem_cons_succ, List.getElem_cons_zero, Act.put, List.setIfInBounds_toArray, List.set_cons_succ, List.set_cons_zero]
      refine wpAnyX_take [11, 10, 9, 8, 7, 6, 5] (i := 5) (v := .int .u8 X) rfl (by kernel_rfl) (by kernel_rfl) (by kernel_rfl) (by kernel_rfl) (by kernel_rfl) (by kernel_rfl) (fun _ _ _ h => h) (Or.inl ⟨by rfl, fun w' hw' => (by dsimp only at hw'; obtain ⟨hw1, hw2⟩ := hw'; go_simp)⟩) hS0 ?_
      simp only [List.getElem_toArray, List.getElem_cons_succ, List.getElem_cons_zero, Act.put, List.setIfInBounds_toArray, List.set_cons_succ, List.set_cons_zero]
      refine wpAnyX_take [11, 10, 9, 8, 7, 6] (i := 6) (v := .int .u8 ((X : Int) % 7)) rfl (by kernel_rfl) (by kernel_rfl) (by kernel_rfl) (by kernel_rfl) (by kernel_rfl) (by kernel_rfl) (fun _ _ _ h => h) (Or.inl ⟨by rfl, fun w' hw' => (by dsimp only at hw'; obtain ⟨hw1, hw2⟩ := hw'; go_simp)⟩) hS0 ?_
      simp only [List.getElem_toArray, List.getElem_cons_succ, List.getElem_cons_zero, Act.put, List.setIfInBounds_toArray, List.set_cons_succ, List.set_cons_zero]
      refine wpAnyX_take [11, 10, 9, 8, 7] (i := 7) (v := .int .i64 ((X : Int) % 7)) rfl (by kernel_rfl) (by kernel_rfl) (by kernel_rfl) (by kernel_rfl) (by kernel_rfl) (by kernel_rfl) (fun _ _ _ h => h) (Or.inl ⟨by rfl, fun w' hw' => (by dsimp only at hw'; obtain ⟨hw1, hw2⟩ := hw'; go_simp)⟩) hS0 ?_
      simp only [List.getElem_toArray, List.getElem_cons_succ, List.getElem_cons_zero, Act.put, List.setIfInBounds_toArray, List.set_cons_succ, List.set_cons_zero]
      refine wpAnyX_take [11, 10, 9, 8] (i := 8) (v := .int .i64 y) rfl (by kernel_rfl) (by kernel_rfl) (by kernel_rfl) (by kernel_rfl) (by kernel_rfl) (by kernel_rfl) (fun _ _ _ h => h) (Or.inl ⟨by rfl, fun w' hw' => (by dsimp only at hw'; obtain ⟨hw1, hw2⟩ := hw'; go_simp)⟩) hS0 ?_
      simp only [List.getElem_toArray, List.getElem_cons_succ, List.getElem_cons_zero, Act.put, List.setIfInBounds_toArray, List.set_cons_succ, List.set_cons_zero]
      refine wpAnyX_take [11, 10, 9] (i := 9) (v := .agg #[.int .i64 j, .int .i64 y]) rfl (by kernel_rfl) (by kernel_rfl) (by kernel_rfl) (by kernel_rfl) (by kernel_rfl) (by kernel_rfl) (fun _ _ _ h => h) (Or.inl ⟨by rfl, fun w' hw' => (by dsimp only at hw'; obtain ⟨hw1, hw2⟩ := hw'; go_simp)⟩) hS0 ?_
      simp only [List.getElem_toArray, List.getElem_cons_succ, List.getElem_cons_zero, Act.put, List.setIfInBounds_toArray, List.set_cons_succ, List.set_cons_zero]
      refine wpAnyX_all (rs := [10]) (by kernel_rfl) (by simp) (fun i2 hi2 => ?_)
      simp only [List.mem_cons, List.not_mem_nil, or_false] at hi2
      subst hi2
      refine wpOp_alloc (by rfl) (by rfl) (n := 1) (cs := #[.int .i64 j, .int .i64 y]) (t := 52) (by go_simp) ?_
      intro w2 b2 g2 o2 l2 h2
      have hg2 := hgd.trans g2
      have hS2 := hSof w2 [] hg2 (by simp) (by simp)
      have hx2 := cells_of_block (cs := [.int .i64 j, .int .i64 y]) h2
      have hr2 := hg2.row r7j (by simp)
      refine ⟨.inr hS2, ?_⟩
      simp only [List.getElem_toArray, List.getElem_cons_succ, List.getElem_cons_zero, Act.put, List.setIfInBounds_toArray, List.set_cons_succ, List.set_cons_zero]
      refine wpAnyX_all (rs := [11]) (by kernel_rfl) (by simp) (fun i2 hi2 => ?_)
      simp only [List.mem_cons, List.not_mem_nil, or_false] at hi2
      subst hi2
      refine wpOp_append (by rfl) (by rfl) _ _ 53 (by rfl) 0 52 i0 (.agg #[.int .i64 0, .int .i64 0]) 2 16 Try.underlying53 hi hz0 hz1 hz2 rfl (by decide) (.slice s7 j c7) j (encPr (tRs ps j)) (by go_simp) hr2 ⟨b2, 0, none⟩ 1 1 [.int .i64 j, .int .i64 y] (by go_simp) rfl (fun k u hk => by rw [add_zeroP]; exact hx2 k u hk) (fun u hu => by simp at hu; rcases hu with rfl | rfl <;> rfl) (by unfold maxLen; omega) (by omega) (Nat.zero_le _) ?_
      intro v3 w3 hown3 hg3 hat3
      have hg3' := GrowBut.of_rowX hg3
      have hg30 : GrowBut wr w3 (Value.slice s7 j c7).ownBlock.toList := (hg2.mono (by simp)).trans hg3'
      have hS3 := hSof w3 _ hg30 hDr hPr
      obtain ⟨s3, c3, rfl⟩ := row_form hown3
      refine ⟨.inr hS3, ?_⟩
      simp only [List.getElem_toArray, List.getElem_cons_succ, List.getElem_cons_zero, Act.put, List.setIfInBounds_toArray, List.set_cons_succ, List.set_cons_zero]
      refine wpAnyX_take [12] (i := 12) (v := .pointer (some ⟨D, 3, none⟩)) rfl (by kernel_rfl) (by kernel_rfl) (by kernel_rfl) (by kernel_rfl) (by kernel_rfl) (by kernel_rfl) (fun _ _ _ h => h) (Or.inl ⟨by rfl, fun w' hw' => (by dsimp only at hw'; obtain ⟨hw1, hw2⟩ := hw'; go_simp)⟩) hS3 ?_
      simp only [List.getElem_toArray, List.getElem_cons_succ, List.getElem_cons_zero, Act.put, List.setIfInBounds_toArray, List.set_cons_succ, List.set_cons_zero]
      have hc33 := hS3.1
      have hf33 := hg30.frozen (a := ⟨D, 3, none⟩) hDlt hfz3 hDr
      refine wpAnyX_all (rs := [13]) (by kernel_rfl) (by simp) (fun i2 hi2 => ?_)
      simp only [List.mem_cons, List.not_mem_nil, or_false] at hi2
      subst hi2
      refine wpOp_skip (by rfl) (by rfl) (w' := w3.setCell ⟨D, 3, none⟩ (.slice s3 (j + 1) c3)) (by go_simp) ?_
      refine ⟨.inl rfl, ?_⟩
      simp only [List.getElem_toArray, List.getElem_cons_succ, List.getElem_cons_zero, Act.put, List.setIfInBounds_toArray, List.set_cons_succ, List.set_cons_zero]
      refine wpAnyX_done (by kernel_rfl) ?_ _
      have hgs := GrowBut.setCell w3 ⟨D, 3, none⟩ (.slice s3 (j + 1) c3)
      have hG4 := (hg30.mono (l' := D :: (Value.slice s7 j c7).ownBlock.toList) (fun x hx => List.mem_cons_of_mem _ hx)).trans (hgs.mono (l' := D :: (Value.slice s7 j c7).ownBlock.toList) (by simp))
      have hlo4 : ∀ x ∈ D :: (Value.slice s7 j c7).ownBlock.toList, x < wr.heap.size → ow x = -2 := fun x hx _ => by
        rcases List.mem_cons.1 hx with rfl | hx
        · exact hDo
        · exact r7.2 x (by simpa using hx)
      have hA4 := hA.kept (ow' := owN ow wr (-2)) hG4 hlo4 owN_old
      have hs30 := hg30.size
      have hD4 : D ∉ [D] → False := fun h => h (by simp)
      have r84 : RowOf (w3.setCell ⟨D, 3, none⟩ (.slice s3 (j + 1) c3)) (owN ow wr (-2)) (-2) 55 2 v8 (tDj ps j).spans.length (encPr (tDj ps j).spans) := by
        refine r8.other hG4 (fun x hx ht => ?_) owN_old
        rcases List.mem_cons.1 hx with rfl | hx
        · exact Typed.ne ht hty (by decide) rfl
        · have := Typed.of_row r7j (by simpa using hx)
          exact Typed.ne ht this (by decide) rfl
      have hDl4 : DealAt (w3.setCell ⟨D, 3, none⟩ (.slice s3 (j + 1) c3)) (owN ow wr (-2)) D (tDj ps (j + 1)) := by
        have k0 := hg30.cell d0 hDr
        have k1 := hg30.cell d1 hDr
        have k2 := hg30.cell d2 hDr
        have k4 := hg30.cell d4 hDr
        refine ⟨by rw [owN_old _ hDlt]; exact hDo, .slice s3 (j + 1) c3, v8, ?_, ?_, ?_, World.cell?_setCell_same _ _ _ hc33, ?_, ⟨?_, fun x hx => ?_⟩, r84⟩
        · exact cell_setCell_off k0 (by decide)
        · exact cell_setCell_off k1 (by decide)
        · exact cell_setCell_off k2 (by decide)
        · exact cell_setCell_off k4 (by decide)
        · show World.ownsRow _ _ _ _ _ (tRs ps (j + 1)).length (encPr (tRs ps (j + 1)))
          rw [tRs_len, hsu, encPr_snoc]
          refine hgs.row hown3 (fun x hx hm => ?_)
          simp at hm
          subst hm
          exact Typed.ne (hty.kept hg30 hDr) (Typed.of_row hown3 hx) (by decide) rfl
        · rcases hat3 with h5 | h5
          · rw [h5] at hx
            rw [owN_old _ (r7j.lt x hx).2]
            exact r7.2 x hx
          · rw [h5] at hx
            exact owN_new (by have := hg2.size; simp at hx; omega)
      have hv4 : ∀ v, (w3.setCell ⟨D, 3, none⟩ (.slice s3 (j + 1) c3)).cell? ⟨D, 3, none⟩ = some v → ∀ x, v.ownBlock = some x → w.heap.size + 1 ≤ x := fun v hv x hx => by
        rw [World.cell?_setCell_same _ _ _ hc33] at hv
        cases hv
        rcases hat3 with h5 | h5
        · rw [h5] at hx; exact hvx x hx
        · rw [h5] at hx
          have := hg2.size
          simp at hx
          omega
      have hp4 : ∀ k, k < 4 → (w3.setCell ⟨D, 3, none⟩ (.slice s3 (j + 1) c3)).cell? ⟨w.heap.size, k, none⟩ = some (.int .u8 (ps.getD k 0)) := fun k hk => hG4.cell (hp k hk) (by
        intro hm
        rcases List.mem_cons.1 hm with h | h
        · simp only at h; omega
        · exact hPr h)
      have hG5 : GrowBut w (w3.setCell ⟨D, 3, none⟩ (.slice s3 (j + 1) c3)) [] := hG.from hG4 (fun x hx => .inr (by
        rcases List.mem_cons.1 hx with rfl | hx
        · omega
        · have := hvx x (by simpa using hx); omega))
      have hty4 : Typed (w3.setCell ⟨D, 3, none⟩ (.slice s3 (j + 1) c3)) D 58 := (hty.kept hg30 hDr).setCell _ _ _
      have hlo5 : ∀ x, x < w.heap.size + 1 → owN ow wr (-2) x = -2 := fun x hx => by rw [owN_old _ (by have := hDlt; omega)]; exact hlo x hx
      go_wp2_with fail
      exact ⟨⟨j + 1, owN ow wr (-2), by simp, by omega, hA4, hDl4, hty4, hv4, hp4, hG5, hlo5⟩, by simp [intOf]; omega⟩
    · have hge : ¬ (j : Int) < 4 := by omega
      obtain rfl : j = 4 := by omega
      have hBg := begin_one hA 4 1 1 (by omega) (by omega) (by omega) (by omega) (by omega) 21474836481 (by omega)
      have hlow : ∀ x, x < w.heap.size → ow x = -2 := fun x hx => hlo x (by omega)
      have hDlt := hty.lt
      have hgeD : w.heap.size ≤ D := by omega
      clear hA hty hv hp hlo
      rw [show newR ((4 : Nat) : Int) ((1 : Nat) : Int) ((1 : Nat) : Int) = tS [] from rfl] at hBg
      go_upto_region 13 with (first
        | (go_at_call 34; (refine hBg.mono ?_; clear hBg; rintro e w2 ⟨ow2, rfl, hO2, hk2⟩; have hDl2 := hDl.kept hk2; have hPc := piece_one (hO2.quiet (GrowBut.alloc w2 (.cells #[.int .u8 0] 5) [])) 4 hm (some ⟨w2.heap.size, 0, none⟩) 1 [0] (by simp) (fun _ => ⟨w2.heap.size, 0, rfl, one_byte w2 0⟩); rw [show mayPc (some (tS [])) 4 [0] = true from rfl, show lastPc (some (tS [])) 4 [0] = true from rfl, show pieceO (some (tS [])) 4 [0] = some (tS [0]) from rfl] at hPc))
        | (go_at_call 35; (refine hPc.mono ?_; clear hPc; rintro e w3 ⟨ow3, vb, rfl, _, hO3, hk3'⟩; have hk3 := (Kept.quiet (ow := ow2) (GrowBut.alloc w2 (.cells #[.int .u8 0] 5) [])).trans hk3'; clear hk3'; have hDl3 := hDl2.kept hk3))
        | fail)
      have hG3 := (hk2.trans hk3).grow hG hlow
      have hlo3 : ∀ x, x < w.heap.size → ow3 x = -2 := fun x hx => by rw [(hk2.trans hk3).old (Nat.lt_of_lt_of_le hx hG.size)]; exact hlow x hx
      obtain ⟨hDo, v7, v8, d0, d1, d2, d3, d4, r7, r8⟩ := hDl3
      obtain ⟨s7, c7, rfl⟩ := row_form r7.1
      obtain ⟨s8, c8, rfl⟩ := row_form r8.1
      have hl7 : (tDj ps 4).recvs.length ≤ 100000 := by show (tRs ps 4).length ≤ _; rw [tRs_len]; omega
      have hTw : TwinIn w3 (tDj ps 4).kind (tDj ps 4).sender (tDj ps 4).zero (tDj ps 4).recvs (tDj ps 4).spans s7 c7 s8 c8 := TwinIn.of_rows r7.1 r8.1 hl7 (by show ([(1, 1)] : List (Int × Int)).length ≤ _; simp)
      have hCl : CloneIn w3 fs pf capf := CloneIn.of_in (fun i hi => by
        obtain ⟨a, h1, h2, h3⟩ := hy i hi
        exact ⟨a, h1, Nat.lt_of_lt_of_le h2 hG3.size, hG3.cell h3 (by simp)⟩) (by omega)
      have hOf := offer_one2 hO3 hm (by omega) (by simp) (tDj ps 4) fs hTw hCl (by show (tRs ps 4).length ≤ _; rw [tRs_len]; omega) (by show ([(1, 1)] : List (Int × Int)).length ≤ _; simp) (by omega)
      rw [show isFull (some (tS [0])) = true from rfl, show offerO (some (tS [0])) (tDj ps 4) fs = some (tO ps fs []) from rfl, show offerE (some (tS [0])) [1] = [1, 2] from rfl] at hOf
      go_wp2_with (first
        | (go_at_call 36; (refine hOf.mono ?_; clear hOf; rintro e w4 ⟨ow4, rfl, hO4, hk4⟩; have hDl4 := DealAt.kept (d := tDj ps 4) ⟨hDo, _, _, d0, d1, d2, d3, d4, r7, r8⟩ hk4; obtain ⟨hDo4, u7, u8, f0, f1, f2, f3, f4, p7, p8⟩ := hDl4; obtain ⟨t7, e7, rfl⟩ := row_form p7.1; obtain ⟨t8, e8, rfl⟩ := row_form p8.1; have hTw4 : TwinIn w4 (tDj ps 4).kind (tDj ps 4).sender (tDj ps 4).zero (tDj ps 4).recvs (tDj ps 4).spans t7 e7 t8 e8 := TwinIn.of_rows p7.1 p8.1 hl7 (by show ([(1, 1)] : List (Int × Int)).length ≤ _; simp); have hG4 := hk4.grow hG3 hlo3; have hCl4 : CloneIn w4 fs pf capf := CloneIn.of_in (fun i hi => by (obtain ⟨a, h1, h2, h3⟩ := hy i hi; exact ⟨a, h1, Nat.lt_of_lt_of_le h2 hG4.size, hG4.cell h3 (by simp)⟩)) (by omega); have hOg := offer_one2 hO4 hm (by omega) (by simp) (tDj ps 4) fs hTw4 hCl4 (by show (tRs ps 4).length ≤ _; rw [tRs_len]; omega) (by show ([(1, 1)] : List (Int × Int)).length ≤ _; simp) (by omega); rw [show isFull (some (tO ps fs [])) = false from rfl, show offerO (some (tO ps fs [])) (tDj ps 4) fs = some (tO ps fs []) from rfl, show offerE (some (tO ps fs [])) [1, 2] = [1, 2] from rfl] at hOg))
        | (go_at_call 36; (refine hOg.mono ?_; clear hOg; rintro e w5 ⟨ow5, rfl, hO5, hk5⟩))
        | fail)
      have hG5 := hk5.grow hG4 (fun x hx => by rw [hk4.old (Nat.lt_of_lt_of_le hx hG3.size)]; exact hlo3 x hx)
      have hlo5 : ∀ x, x < w.heap.size → ow5 x = -2 := fun x hx => by rw [(hk4.trans hk5).old (Nat.lt_of_lt_of_le hx hG3.size)]; exact hlo3 x hx
      have hDl5 := DealAt.kept (d := tDj ps 4) ⟨hDo4, _, _, f0, f1, f2, f3, f4, p7, p8⟩ hk5
      clear hTw hTw4 hCl hCl4 hO3 hO4 hO2 hDl2 hDl hG hG3 hG4 hk2 hk3 hk4 hk5 r7 r8 p7 p8 d0 d1 d2 d3 d4 f0 f1 f2 f3 f4 hlow hlo3 hDo hDo4
      have hGa := GrowBut.alloc w5 (.cells #[.bool false, .bool false, .bool false, .bool false] 61) []
      have hT6 : TookAt (w5.alloc (.cells #[.bool false, .bool false, .bool false, .bool false] 61)) (owN ow5 w5 (-2)) w5.heap.size (fun _ => false) := by
        refine ⟨owN_new (Nat.le_refl _), Typed.alloc _ _ _, fun k hk => ?_, fun k hk => by go_simp⟩
        have : k = 0 ∨ k = 1 ∨ k = 2 ∨ k = 3 := by omega
        rcases this with rfl | rfl | rfl | rfl <;> go_simp
      have hO6 := hO5.quiet hGa
      have hDl6 := hDl5.kept (Kept.quiet (ow := ow5) hGa)
      have hG6 := hG5.trans hGa
      have hlo6 : ∀ x, x < w.heap.size → owN ow5 w5 (-2) x = -2 := fun x hx => by rw [owN_old _ (Nat.lt_of_lt_of_le hx hG5.size)]; exact hlo5 x hx
      have hDn := cell_lt hDl5.2.choose_spec.choose_spec.1
      have hTB : w5.heap.size ≠ D ∧ w.heap.size ≤ w5.heap.size := by have := hG5.size; simp only at hDn; omega
      clear hO5 hDl5 hG5 hlo5 hGa hDn
      generalize owN ow5 w5 (-2) = owr at hT6 hO6 hDl6 hlo6
      generalize w5.heap.size = TB at hT6 hTB ⊢
      go_loopw [17] (fun v17 wx => ∃ (i : Nat) (ow : Nat → Int) (ev ts : List Int) (f : Nat → Bool), v17 = .int .i64 i ∧ i ≤ zs.length ∧ ev.length ≤ 2 + i ∧ One wx ow P 21474836481 (6 + 2 * i) (some (tO ps fs ts)) ev ∧ TInv f ts ∧ DealAt wx ow D (tDj ps 4) ∧ TookAt wx ow TB f ∧ GrowBut w wx [] ∧ (∀ x, x < w.heap.size → ow x = -2)) (fun v17 _ => zs.length - intOf v17)
      case atStart => exact ⟨0, owr, [1, 2], [], fun _ => false, rfl, by omega, by simp, hO6.more (by omega), ⟨List.nodup_nil, fun k _ => by simp, fun x hx => (by cases hx)⟩, hDl6, hT6, hG6, hlo6⟩
      case round =>
        clear hO6 hDl6 hT6 hG6 hlo6
        obtain ⟨i, ow, ev, ts, f, rfl, hi', hel, hO, hI, hDl, hT, hG, hlo⟩ := hrel
        by_cases hlz : i < zs.length
        · have hlz' : (i : Int) < (zs.length : Int) := by omega
          obtain ⟨az, rfl, hazb, hcz⟩ := hz i hlz
          have hczr := hG.cell hcz (by simp)
          obtain ⟨Z, hZ, hZ2⟩ := wf_u8n (hzw _ (getD_memI hlz))
          rw [hZ] at hczr
          obtain ⟨q, hq⟩ : ∃ q, q = Z % 5 := ⟨_, rfl⟩
          have hq5 : q < 5 := by omega
          have hqq : (Z : Int) % 5 = (q : Int) := by omega
          clear hq
          have hqw : (Lit.int .i64 (q : Int)).wf = true := wf_small (by omega) (by omega)
          have hTk := take_one hO q hm hqw (by omega) (by omega)
          have hmy := tMay (ps := ps) (fs := fs) (ts := ts) (q := q)
          by_cases hmayq : q < 4 ∧ f q = false
          · obtain ⟨hq4, hfq⟩ := hmayq
            have hnot : (q : Int) ∉ ts := fun hx => by rw [(hI.is_ q hq4).2 hx] at hfq; cases hfq
            rw [if_pos ⟨hq4, hnot⟩] at hmy
            have htk := tTake (ev := ev) hq4 hmy
            rw [hmy, htk.1, htk.2.1, htk.2.2.1, htk.2.2.2] at hTk
            clear hmy htk
            have hq4' : (q : Int) < 4 := by omega
            obtain ⟨pq, hpq⟩ : ∃ pq, 1 + ps.getD q 0 % 7 = pq := ⟨_, rfl⟩
            have hgq : ((tDj ps 4).recvs.getD q (0, 0)).2 = pq := by
              rw [← hpq]
              show ((tRs ps 4).getD q (0, 0)).2 = _
              have : q = 0 ∨ q = 1 ∨ q = 2 ∨ q = 3 := by omega
              rcases this with rfl | rfl | rfl | rfl <;> rfl
            rw [hpq] at hTk
            clear hpq
            go_upto_region 26 with (first
              | (go_at_call 37; (refine hTk.mono ?_; clear hTk; rintro e w3 ⟨ow3, vd, vf, rfl, hvd, hvf, hO3, hk3⟩; obtain ⟨v7, v8, rfl, r7, r8⟩ := hvd; obtain ⟨s7, c7, rfl⟩ := row_form r7.1; obtain ⟨s8, c8, rfl⟩ := row_form r8.1; have hka := Kept.quiet (ow := ow3) (GrowBut.alloc w3 (.cells #[.int .i64 (toldD (some (tO ps fs ts)) 0).kind, .int .i64 (toldD (some (tO ps fs ts)) 0).sender, .bool (toldD (some (tO ps fs ts)) 0).zero, .slice s7 (toldD (some (tO ps fs ts)) 0).recvs.length c7, .slice s8 (toldD (some (tO ps fs ts)) 0).spans.length c8] 58) []); have hDl3 := (hDl.kept hk3).kept hka; have hT3 := (hT.kept hk3).kept hka; have hf3 := hka.row hvf; obtain ⟨sf, cf, rfl⟩ := row_form hvf.1; have hcq := hT3.c q hq4; rw [hfq] at hcq; have hfzq := hT3.fz q hq4))
              | fail)
            have hkA := hk3.trans hka
            have hgs := GrowBut.setCell (w3.alloc (.cells #[.int .i64 (toldD (some (tO ps fs ts)) 0).kind, .int .i64 (toldD (some (tO ps fs ts)) 0).sender, .bool (toldD (some (tO ps fs ts)) 0).zero, .slice s7 (toldD (some (tO ps fs ts)) 0).recvs.length c7, .slice s8 (toldD (some (tO ps fs ts)) 0).spans.length c8] 58)) ⟨TB, q, none⟩ (.bool true)
            have hTy := hT3.ty
            have hT4 := hT3.set q hq4 true
            have hDl4 := hDl3.other (ow' := owN ow3 w3 (-2)) hgs (by simpa using fun e => hTB.1 e.symm) (fun x hx => by simp at hx; rw [hx]; exact ⟨fun h => Typed.ne hTy h (by decide) rfl, fun h => Typed.ne hTy h (by decide) rfl⟩) (fun _ _ => rfl)
            have hO4 := (hO3.quiet (GrowBut.alloc w3 (.cells #[.int .i64 (toldD (some (tO ps fs ts)) 0).kind, .int .i64 (toldD (some (tO ps fs ts)) 0).sender, .bool (toldD (some (tO ps fs ts)) 0).zero, .slice s7 (toldD (some (tO ps fs ts)) 0).recvs.length c7, .slice s8 (toldD (some (tO ps fs ts)) 0).spans.length c8] 58) [])).kept (ow' := owN ow3 w3 (-2)) hgs (fun x hx _ => by simp at hx; rw [hx]; exact hT3.own) (fun _ _ => rfl)
            have hG4 := (hkA.grow hG hlo).from hgs (fun x hx => .inr (by simp at hx; rw [hx]; exact hTB.2))
            have hf4 := hf3.other (ow' := owN ow3 w3 (-2)) hgs (fun x hx ht => by simp at hx; rw [hx] at ht; exact Typed.ne hTy ht (by decide) rfl) (fun _ _ => rfl)
            have hlo4 : ∀ x, x < w.heap.size → owN ow3 w3 (-2) x = -2 := fun x hx => by rw [hkA.old (Nat.lt_of_lt_of_le hx hG.size)]; exact hlo x hx
            have hI4 := hI.taken hq4 hfq
            have hK4 : ∀ wx, GrowBut ((w3.alloc (.cells #[.int .i64 (toldD (some (tO ps fs ts)) 0).kind, .int .i64 (toldD (some (tO ps fs ts)) 0).sender, .bool (toldD (some (tO ps fs ts)) 0).zero, .slice s7 (toldD (some (tO ps fs ts)) 0).recvs.length c7, .slice s8 (toldD (some (tO ps fs ts)) 0).spans.length c8] 58)).setCell ⟨TB, q, none⟩ (.bool true)) wx [] → Kept ((w3.alloc (.cells #[.int .i64 (toldD (some (tO ps fs ts)) 0).kind, .int .i64 (toldD (some (tO ps fs ts)) 0).sender, .bool (toldD (some (tO ps fs ts)) 0).zero, .slice s7 (toldD (some (tO ps fs ts)) 0).recvs.length c7, .slice s8 (toldD (some (tO ps fs ts)) 0).spans.length c8] 58)).setCell ⟨TB, q, none⟩ (.bool true)) wx (owN ow3 w3 (-2)) (owN (owN ow3 w3 (-2)) ((w3.alloc (.cells #[.int .i64 (toldD (some (tO ps fs ts)) 0).kind, .int .i64 (toldD (some (tO ps fs ts)) 0).sender, .bool (toldD (some (tO ps fs ts)) 0).zero, .slice s7 (toldD (some (tO ps fs ts)) 0).recvs.length c7, .slice s8 (toldD (some (tO ps fs ts)) 0).spans.length c8] 58)).setCell ⟨TB, q, none⟩ (.bool true)) (-2)) := fun wx hg => Kept.quiet hg
            clear hkA hgs hT3 hDl3 hO3 hf3 hvf hk3 hka hO hDl hT hG hlo hcq hfzq hczr
            generalize (w3.alloc (.cells #[.int .i64 (toldD (some (tO ps fs ts)) 0).kind, .int .i64 (toldD (some (tO ps fs ts)) 0).sender, .bool (toldD (some (tO ps fs ts)) 0).zero, .slice s7 (toldD (some (tO ps fs ts)) 0).recvs.length c7, .slice s8 (toldD (some (tO ps fs ts)) 0).spans.length c8] 58)).setCell ⟨TB, q, none⟩ (.bool true) = w4 at hT4 hDl4 hO4 hG4 hf4 hK4 ⊢
            generalize owN ow3 w3 (-2) = ow4 at hT4 hDl4 hO4 hf4 hlo4 hK4
            have hDl4' := hDl4
            obtain ⟨_, g7, g8, _, _, _, e3, _, p7, _⟩ := hDl4'
            obtain ⟨sg, cg, G, rfl, hcs⟩ := pairs_open p7.1
            have hlen : (tDj ps 4).recvs.length = 4 := tRs_len ps 4
            rw [hlen] at e3 hcs
            obtain ⟨rfl, hcs'⟩ := hcs (by omega)
            have hcg := (hcs' q hq4).2
            rw [hgq] at hcg
            obtain ⟨sf', cf', Gf, hvfe, hcf⟩ := rowI_open hf4.1
            simp only [Value.slice.injEq, true_and] at hvfe
            obtain ⟨rfl, rfl⟩ := hvfe
            clear hgq hcs hcs' hlen p7
            go_wp2_with fail
            go_loopw [24] (fun v24 wx => ∃ k : Nat, v24 = .int .i64 k ∧ k ≤ fs.length ∧ GrowBut w4 wx []) (fun v24 _ => fs.length - intOf v24)
            case atStart => exact ⟨0, rfl, by omega, .refl _ _⟩
            case round =>
              obtain ⟨k, rfl, hk, hgx⟩ := hrel
              by_cases hkl : k < fs.length
              · have hkl' : (k : Int) < (fs.length : Int) := by omega
                obtain ⟨rfl, hcf'⟩ := hcf (by omega)
                have hc1 := hgx.cell (hcf' k hkl) (by simp)
                obtain ⟨af, rfl, hafb, hcy⟩ := hy k hkl
                have hc2 := (hG4.trans hgx).cell hcy (by simp)
                clear hcf hcf' hcy
                generalize fs.getD k 0 = fk at hc1 hc2
                go_upto_region 31 with fail
                go_quiet (fail)
                go_wp2_with fail
                exact ⟨⟨k + 1, by simp, by omega, hgx.trans (GrowBut.drewN _ _ _)⟩, by simp [intOf]; omega⟩
              · have hge : ¬ (k : Int) < (fs.length : Int) := by omega
                have hkk : k = fs.length := by omega
                clear hkk hcf
                go_wp2_with fail
                have hKx := hK4 _ hgx
                exact ⟨⟨i + 1, _, ev ++ [3], ts ++ [(q : Int)], upB f q true, by simp, by omega, by simp only [List.length_append, List.length_cons, List.length_nil]; omega, (hO4.quiet hgx).more (by omega), hI4, hDl4.kept hKx, hT4.kept hKx, hG4.trans hgx, fun x hx => by rw [hKx.old (Nat.lt_of_lt_of_le hx hG4.size)]; exact hlo4 x hx⟩, by simp [intOf]; omega⟩
          · have hnm : ¬ (q < 4 ∧ (q : Int) ∉ ts) := fun h => hmayq ⟨h.1, by cases hh : f q; rfl; exact absurd ((hI.is_ q h.1).1 hh) h.2⟩
            rw [if_neg hnm] at hmy
            have htk := tk_no (ev := ev) (o := some (tO ps fs ts)) (who := (q : Int)) (by rw [hmy]; decide)
            rw [hmy, htk.1, htk.2.1, htk.2.2] at hTk
            clear hmy htk hnm
            by_cases hq4 : q < 4
            · have hq4' : (q : Int) < 4 := by omega
              have hfq : f q = true := by cases hh : f q; exact absurd ⟨hq4, hh⟩ hmayq; rfl
              go_wp2_with (first
                | (go_at_call 37; (refine hTk.mono ?_; clear hTk; rintro e w3 ⟨ow3, vd, vf, rfl, hvd, _, hO3, hk3⟩; obtain ⟨v7, v8, rfl, r7, r8⟩ := hvd; obtain ⟨s7, c7, rfl⟩ := row_form r7.1; obtain ⟨s8, c8, rfl⟩ := row_form r8.1; have hka := Kept.quiet (ow := ow3) (GrowBut.alloc w3 (.cells #[.int .i64 (toldD (some (tO ps fs ts)) (-6)).kind, .int .i64 (toldD (some (tO ps fs ts)) (-6)).sender, .bool (toldD (some (tO ps fs ts)) (-6)).zero, .slice s7 (toldD (some (tO ps fs ts)) (-6)).recvs.length c7, .slice s8 (toldD (some (tO ps fs ts)) (-6)).spans.length c8] 58) []); have hDl3 := (hDl.kept hk3).kept hka; have hT3 := (hT.kept hk3).kept hka; have hcq := hT3.c q hq4; rw [hfq] at hcq))
                | fail)
              have hkA := hk3.trans hka
              exact ⟨⟨i + 1, owN ow3 w3 (-2), ev, ts, f, by simp, by omega, by omega, (hO3.quiet (GrowBut.alloc _ _ _)).more (by omega), hI, hDl3, hT3, hkA.grow hG hlo, fun x hx => by rw [hkA.old (Nat.lt_of_lt_of_le hx hG.size)]; exact hlo x hx⟩, by simp [intOf]; omega⟩
            · have hq4' : ¬ (q : Int) < 4 := by omega
              go_wp2_with (first
                | (go_at_call 37; (refine hTk.mono ?_; clear hTk; rintro e w3 ⟨ow3, vd, vf, rfl, hvd, _, hO3, hk3⟩; obtain ⟨v7, v8, rfl, r7, r8⟩ := hvd; obtain ⟨s7, c7, rfl⟩ := row_form r7.1; obtain ⟨s8, c8, rfl⟩ := row_form r8.1; have hka := Kept.quiet (ow := ow3) (GrowBut.alloc w3 (.cells #[.int .i64 (toldD (some (tO ps fs ts)) (-6)).kind, .int .i64 (toldD (some (tO ps fs ts)) (-6)).sender, .bool (toldD (some (tO ps fs ts)) (-6)).zero, .slice s7 (toldD (some (tO ps fs ts)) (-6)).recvs.length c7, .slice s8 (toldD (some (tO ps fs ts)) (-6)).spans.length c8] 58) []); have hDl3 := (hDl.kept hk3).kept hka; have hT3 := (hT.kept hk3).kept hka))
                | fail)
              have hkA := hk3.trans hka
              exact ⟨⟨i + 1, owN ow3 w3 (-2), ev, ts, f, by simp, by omega, by omega, (hO3.quiet (GrowBut.alloc _ _ _)).more (by omega), hI, hDl3, hT3, hkA.grow hG hlo, fun x hx => by rw [hkA.old (Nat.lt_of_lt_of_le hx hG.size)]; exact hlo x hx⟩, by simp [intOf]; omega⟩
        · have hge : ¬ (i : Int) < (zs.length : Int) := by omega
          have hDe := deal_one hO hm (by omega)
          rw [show dealO (some (tO ps fs ts)) = some (tO ps fs ts) from rfl] at hDe
          simp only [Option.isSome_some, Option.map_some, Option.getD_some] at hDe
          have htt : (tO ps fs ts).takers = ts := rfl
          rw [htt, hI.risen] at hDe
          go_wp2_with (first
            | (go_at_call 43; (refine hDe.mono ?_; clear hDe; rintro e w3 ⟨vd, vt, rfl, ⟨v7, v8, rfl, r7, r8⟩, hvt, hg3⟩; obtain ⟨s7, c7, rfl⟩ := row_form r7.1; obtain ⟨s8, c8, rfl⟩ := row_form r8.1; have hT3 := hT.kept (Kept.quiet hg3); have hG3 := hG.trans hg3; obtain ⟨st, ct, Gt, rfl, hct⟩ := rowI_open hvt.1))
            | fail)
          have hga := GrowBut.alloc w3 (.cells #[.int .i64 (tO ps fs ts).d.kind, .int .i64 (tO ps fs ts).d.sender, .bool (tO ps fs ts).d.zero, .slice s7 (tO ps fs ts).d.recvs.length c7, .slice s8 (tO ps fs ts).d.spans.length c8] 58) []
          have hT4 := hT3.kept (Kept.quiet hga)
          have hG4 := hG3.trans hga
          have hct4 := fun (h : 0 < (who4 f).length) => (⟨(hct h).1, fun i hi => hga.cell ((hct h).2 i hi) (by simp)⟩ : st = some ⟨Gt, 0, none⟩ ∧ ∀ i, i < (who4 f).length → (w3.alloc (.cells #[.int .i64 (tO ps fs ts).d.kind, .int .i64 (tO ps fs ts).d.sender, .bool (tO ps fs ts).d.zero, .slice s7 (tO ps fs ts).d.recvs.length c7, .slice s8 (tO ps fs ts).d.spans.length c8] 58)).cell? ⟨Gt, i, none⟩ = some (.int .i64 ((who4 f).getD i 0)))
          clear hct hT3 hG3 hga hvt r7 r8 hT hO hDl hG
          generalize w3.alloc (.cells #[.int .i64 (tO ps fs ts).d.kind, .int .i64 (tO ps fs ts).d.sender, .bool (tO ps fs ts).d.zero, .slice s7 (tO ps fs ts).d.recvs.length c7, .slice s8 (tO ps fs ts).d.spans.length c8] 58) = w4 at hT4 hG4 hct4 ⊢
          go_loopw [28, 29] (fun v28 v29 wx => ∃ k : Nat, v29 = .int .i64 k ∧ k ≤ 4 ∧ v28 = .int .i64 (cntB f k) ∧ wx = w4) (fun _ v29 _ => 4 - intOf v29)
          case atStart => exact ⟨0, rfl, by omega, rfl, rfl⟩
          case round =>
            obtain ⟨k, rfl, hk, rfl, rfl⟩ := hrel
            have hsuc := cntB_succ f k
            have hcl := cntB_le f k
            by_cases hk4 : k < 4
            · have hk4' : (k : Int) < 4 := by omega
              have hck := hT4.c k hk4
              cases hfk : f k with
              | true =>
                rw [hfk] at hck hsuc
                simp only [if_true] at hsuc
                obtain ⟨hat1, hat2⟩ := who4_at hk4 hfk
                obtain ⟨rfl, hcc⟩ := hct4 (by omega)
                have hcc' := hcc _ hat1
                rw [hat2] at hcc'
                have hge2 : ¬ ((who4 f).length : Int) ≤ (cntB f k : Int) := by omega
                have hw := IntWalk.i64_in ((cntB f k : Int) + 1) (by omega)
                clear hct4 hcc hat2
                go_wp2_with fail
                exact ⟨⟨k + 1, by simp, by omega, by rw [hsuc]; simp, by first | rfl | trivial⟩, by simp [intOf]; omega⟩
              | false =>
                rw [hfk] at hck hsuc
                simp only [Bool.false_eq_true, if_false, Nat.add_zero] at hsuc
                clear hct4
                go_wp2_with fail
                exact ⟨⟨k + 1, by simp, by omega, by rw [hsuc], by first | rfl | trivial⟩, by simp [intOf]; omega⟩
            · have hge : ¬ (k : Int) < 4 := by omega
              have hke : k = 4 := by omega
              subst hke
              clear hsuc hcl hct4
              have hcl4 := who4_len f
              have hG0 := hG4.keepAll
              go_wp2_with fail
              go_ret
              exact ⟨by simp, hG0⟩

end Go.Proofs.Ytcoedmiichppdaa


/-
  Arguments that come in: arrays of numbers, rows of numbers (for a seat without api.Regs).
-/
namespace Go.Proofs.Ytcoedmiichppdaa
open Go Go.ChangeShapes Go.WideShapes Go.ChangeAt Go.RowKit
set_option linter.unusedVariables false
set_option linter.unusedSimpArgs false

theorem laidOut : laidOutB Try.prog = true := by kernel_rfl
theorem ownKnobs : ownKnob Try.prog.godebug = none := by kernel_rfl

/-! ### Arrays of numbers that come in -/
theorem mapM_all {α β : Type} {f : α → Option β} : ∀ {L : List α} {ys : List β}, L.mapM f = some ys → ∀ i ∈ L, ∃ y, f i = some y
  | [], _, _, i, hi => by simp at hi
  | x :: L, ys, h, i, hi => by
    rw [List.mapM_cons] at h
    simp only [bind, Option.bind_eq_some_iff, pure, Option.some.injEq] at h
    obtain ⟨y, hy, zs, hz, _⟩ := h
    rcases List.mem_cons.1 hi with rfl | hi
    · exact ⟨y, hy⟩
    · exact mapM_all hz i hi

theorem all_ints {q : IntKind} : ∀ (l : List Value), (∀ x ∈ l, ∃ a, x = .int q a) → ∃ zs : List Int, l = zs.map (Value.int q ·)
  | [], _ => ⟨[], rfl⟩
  | x :: l, h => by
    obtain ⟨a, rfl⟩ := h x (by simp)
    obtain ⟨zs, rfl⟩ := all_ints l fun y hy => h y (by simp [hy])
    exact ⟨a :: zs, rfl⟩

theorem arr_ints {H : Type} {enc : TypeId × Value → H} {P : Program} {k e : TypeId} {n : Nat} {q : IntKind} {W : World} {base : Nat} {sp : Nat → Bool} {held : Bool} (hu : P.underlying k = some (.array n e)) (he : P.underlying e = some (.int q)) (h1 : P.cellsOf e = 1) (hk : P.cellsOf k = n)
    {xs : Array Value} (hn : xs.size = n) {d : DataW H} {ps : List MemPlace} (hd : DataW.Trod enc P W base sp held k (.agg xs) d ps) : ps = [] ∧ ∃ zs : List Int, xs.toList = zs.map (Value.int q ·) ∧ zs.length = n := by
  obtain ⟨fuel, hf⟩ := hd
  cases fuel with
  | zero => simp [DataW.trod] at hf
  | succ m =>
    rw [DataW.trod_step] at hf
    unfold DataW.trodStep at hf
    simp only [hu, Value.cells] at hf
    rw [if_pos (by rw [hk]; simpa using hn)] at hf
    simp only [Option.map_eq_some_iff] at hf
    obtain ⟨ys, hy, e1⟩ := hf
    obtain ⟨ls, hls, _⟩ := Go.WideMaps.mapM_both (D := 0) he _ ys hy
    simp only [Prod.mk.injEq] at e1
    refine ⟨by rw [← e1.2, hls]; simp [List.flatMap_eq_nil_iff], ?_⟩
    have hall : ∀ x ∈ xs.toList, ∃ a, x = Value.int q a := fun x hx => by
      obtain ⟨i, hi, hxi⟩ := List.getElem_of_mem hx
      have hin : i < n := by rw [← hn]; simpa using hi
      obtain ⟨y, hy'⟩ := mapM_all hy i (by simp [hin])
      obtain ⟨a, ha, _⟩ := DataW.trod_int he hy'
      refine ⟨a, ?_⟩
      rw [h1, Nat.mul_one] at ha
      have : ((xs.toList.drop i).take 1)[0]? = some (Value.int q a) := by rw [ha]; rfl
      rw [List.getElem?_take, if_pos (by omega), List.getElem?_drop, Nat.add_zero, List.getElem?_eq_getElem hi, hxi] at this
      exact Option.some.inj this
    obtain ⟨zs, hz⟩ := all_ints _ hall
    refine ⟨zs, hz, ?_⟩
    have := congrArg List.length hz
    simp at this
    omega

abbrev regs (x0 x1 x2 x3 x4 x5 x6 x7 : Int) : Value := .agg #[.int .u64 x0, .int .u64 x1, .int .u64 x2, .int .u64 x3, .int .u64 x4, .int .u64 x5, .int .u64 x6, .int .u64 x7]

set_option maxRecDepth 100000 in
theorem cell_ltO {w : World} {a : Addr} {v : Value} (h : w.cell? a = some v) : a.block < w.heap.size := by
  by_cases h2 : a.block < w.heap.size
  · exact h2
  · exfalso
    have h3 : w.heap[a.block]? = none := Array.getElem?_eq_none (by omega)
    simp [World.cell?, h3] at h

set_option maxRecDepth 100000 in
theorem slice_ints {H : Type} {enc : TypeId × Value → H} {W : World} {b0 : Nat} {r : Reach} {t e : TypeId} {q : IntKind} {v : Value} {d : DataW H} {ps : List MemPlace} (ht : Try.prog.underlying t = some (.slice e)) (he : Try.prog.underlying e = some (.int q)) (hc : Try.prog.cellsOf e = 1) (hval : Value.okWide Try.prog W r b0 t v)
    (hd : DataW.Trod enc Try.prog W 0 (fun _ => true) true t v d ps) :
    ∃ (zs : List Int) (p : Option Addr) (cap : Nat), v = .slice p zs.length cap ∧ (∀ i, i < zs.length → ∃ a, p = some a ∧ a.block < W.heap.size ∧ W.cell? (a.add i) = some (.int q (zs.getD i 0))) ∧ ∀ n ∈ zs, (Lit.int q n).wf = true := by
  obtain ⟨fuel, hf⟩ := hd
  obtain ⟨a0, len, cap, rfl⟩ := okWide_slice ht hval
  rcases open_ints ht he hc hf with ⟨hcs, hx⟩ | ⟨a, len', cap', zs, hcs, _, hl, hm, hz, hx, hcell, hwz⟩
  · simp [Value.cells] at hcs
    obtain ⟨rfl, rfl, rfl⟩ := hcs
    exact ⟨[], none, 0, rfl, fun i hi => by simp at hi, fun n hn => by simp at hn⟩
  · simp [Value.cells] at hcs
    obtain ⟨rfl, rfl, rfl⟩ := hcs
    simp only [if_true] at hz
    refine ⟨zs.take len, _, cap, by rw [List.length_take, Nat.min_eq_left (by omega)], fun i hi => ?_, fun n hn => hwz n (List.mem_of_mem_take hn)⟩
    rw [List.length_take, Nat.min_eq_left (by omega)] at hi
    have h1 := hcell i (by omega)
    refine ⟨a, rfl, ?_, ?_⟩
    · have : (a.add i).block = a.block := by unfold Addr.add; first | rfl | (split <;> rfl)
      rw [← this]
      exact cell_ltO h1
    · rw [h1, List.getD_eq_getElem?_getD, List.getD_eq_getElem?_getD, List.getElem?_take_of_lt hi]

end Go.Proofs.Ytcoedmiichppdaa
