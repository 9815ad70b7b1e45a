/-
  PactPaths: the walk.
-/
import Derived.Test.YtcoedmiichppdaaJ12
import Derived.Deep.Cut
import Derived.Deep.CutBlock
import Derived.Deep.CutRange

namespace Go.Proofs.Ytcoedmiichppdaa
open Go Go.RowKit Go.Maps Go.Am
set_option linter.unusedVariables false
set_option linter.unusedSimpArgs false

theorem pathLit (w : World) (ow : Nat → Int) (what : Nat) (n : Nat) (hn : n = if (what : Int) = 3 then 1 else 4) : DealAt (((w.alloc (.cells #[.int .i64 0, .int .i64 1, .int .i64 1, .int .i64 2, .int .i64 2, .int .i64 3, .int .i64 3, .int .i64 4] 52)).alloc (.cells #[.int .i64 1, .int .i64 1] 55)).alloc (.cells #[.int .i64 what, .int .i64 5, .bool false, .slice (some ⟨w.heap.size, 0, none⟩) n 4, .slice (some ⟨w.heap.size + 1, 0, none⟩) 1 1] 58)) (owN ow w (-2)) (w.heap.size + 1 + 1) (pD what) := by
  have e1 : (w.alloc (.cells #[.int .i64 0, .int .i64 1, .int .i64 1, .int .i64 2, .int .i64 2, .int .i64 3, .int .i64 3, .int .i64 4] 52)).heap.size = w.heap.size + 1 := by go_simp
  have hb : (w.alloc (.cells #[.int .i64 0, .int .i64 1, .int .i64 1, .int .i64 2, .int .i64 2, .int .i64 3, .int .i64 3, .int .i64 4] 52)).heap[w.heap.size]? = some (.cells #[.int .i64 0, .int .i64 1, .int .i64 1, .int .i64 2, .int .i64 2, .int .i64 3, .int .i64 3, .int .i64 4] 52) := heap_alloc_new w _
  have r8 := (World.ownsRow_lit (base := 0) (size := 2) (e := 55) (w.alloc (.cells #[.int .i64 0, .int .i64 1, .int .i64 1, .int .i64 2, .int .i64 2, .int .i64 3, .int .i64 3, .int .i64 4] 52)) #[.int .i64 1, .int .i64 1] 1 (by omega) (by unfold maxLen; omega) rfl).alloc (.cells #[.int .i64 what, .int .i64 5, .bool false, .slice (some ⟨w.heap.size, 0, none⟩) n 4, .slice (some ⟨w.heap.size + 1, 0, none⟩) 1 1] 58)
  rw [e1] at r8
  have r7 : (w.alloc (.cells #[.int .i64 0, .int .i64 1, .int .i64 1, .int .i64 2, .int .i64 2, .int .i64 3, .int .i64 3, .int .i64 4] 52)).ownsRow 0 52 2 (.slice (some ⟨w.heap.size, 0, none⟩) n 4) n (encPr (pRs what)) := by
    by_cases h3 : (what : Int) = 3
    · rw [if_pos h3] at hn
      subst hn
      unfold pRs
      rw [if_pos h3]
      exact ⟨rfl, .inr ⟨_, 4, _, rfl, Nat.zero_le _, hb, by omega, by unfold maxLen; omega, rfl, rfl⟩⟩
    · rw [if_neg h3] at hn
      subst hn
      unfold pRs
      rw [if_neg h3]
      exact ⟨rfl, .inr ⟨_, 4, _, rfl, Nat.zero_le _, hb, by omega, by unfold maxLen; omega, rfl, rfl⟩⟩
  have hl : (pRs (what : Int)).length = n := by
    unfold pRs
    by_cases h3 : (what : Int) = 3
    · rw [if_pos h3] at hn ⊢; exact hn.symm
    · rw [if_neg h3] at hn ⊢; exact hn.symm
  have r7' := (r7.alloc (.cells #[.int .i64 1, .int .i64 1] 55)).alloc (.cells #[.int .i64 what, .int .i64 5, .bool false, .slice (some ⟨w.heap.size, 0, none⟩) n 4, .slice (some ⟨w.heap.size + 1, 0, none⟩) 1 1] 58)
  clear hn
  have c0 : (((w.alloc (.cells #[.int .i64 0, .int .i64 1, .int .i64 1, .int .i64 2, .int .i64 2, .int .i64 3, .int .i64 3, .int .i64 4] 52)).alloc (.cells #[.int .i64 1, .int .i64 1] 55)).alloc (.cells #[.int .i64 what, .int .i64 5, .bool false, .slice (some ⟨w.heap.size, 0, none⟩) n 4, .slice (some ⟨w.heap.size + 1, 0, none⟩) 1 1] 58)).cell? ⟨w.heap.size + 1 + 1, 0, none⟩ = some (.int .i64 what) := by go_simp
  have c1 : (((w.alloc (.cells #[.int .i64 0, .int .i64 1, .int .i64 1, .int .i64 2, .int .i64 2, .int .i64 3, .int .i64 3, .int .i64 4] 52)).alloc (.cells #[.int .i64 1, .int .i64 1] 55)).alloc (.cells #[.int .i64 what, .int .i64 5, .bool false, .slice (some ⟨w.heap.size, 0, none⟩) n 4, .slice (some ⟨w.heap.size + 1, 0, none⟩) 1 1] 58)).cell? ⟨w.heap.size + 1 + 1, 1, none⟩ = some (.int .i64 5) := by go_simp
  have c2 : (((w.alloc (.cells #[.int .i64 0, .int .i64 1, .int .i64 1, .int .i64 2, .int .i64 2, .int .i64 3, .int .i64 3, .int .i64 4] 52)).alloc (.cells #[.int .i64 1, .int .i64 1] 55)).alloc (.cells #[.int .i64 what, .int .i64 5, .bool false, .slice (some ⟨w.heap.size, 0, none⟩) n 4, .slice (some ⟨w.heap.size + 1, 0, none⟩) 1 1] 58)).cell? ⟨w.heap.size + 1 + 1, 2, none⟩ = some (.bool false) := by go_simp
  have c3 : (((w.alloc (.cells #[.int .i64 0, .int .i64 1, .int .i64 1, .int .i64 2, .int .i64 2, .int .i64 3, .int .i64 3, .int .i64 4] 52)).alloc (.cells #[.int .i64 1, .int .i64 1] 55)).alloc (.cells #[.int .i64 what, .int .i64 5, .bool false, .slice (some ⟨w.heap.size, 0, none⟩) n 4, .slice (some ⟨w.heap.size + 1, 0, none⟩) 1 1] 58)).cell? ⟨w.heap.size + 1 + 1, 3, none⟩ = some (.slice (some ⟨w.heap.size, 0, none⟩) n 4) := by go_simp
  have c4 : (((w.alloc (.cells #[.int .i64 0, .int .i64 1, .int .i64 1, .int .i64 2, .int .i64 2, .int .i64 3, .int .i64 3, .int .i64 4] 52)).alloc (.cells #[.int .i64 1, .int .i64 1] 55)).alloc (.cells #[.int .i64 what, .int .i64 5, .bool false, .slice (some ⟨w.heap.size, 0, none⟩) n 4, .slice (some ⟨w.heap.size + 1, 0, none⟩) 1 1] 58)).cell? ⟨w.heap.size + 1 + 1, 4, none⟩ = some (.slice (some ⟨w.heap.size + 1, 0, none⟩) 1 1) := by go_simp
  refine ⟨owN_new (by omega), _, _, c0, c1, c2, c3, c4, ⟨?_, fun x hx => ?_⟩, ⟨r8, fun x hx => ?_⟩⟩
  · show World.ownsRow _ _ _ _ _ (pRs (what : Int)).length _
    rw [hl]
    exact r7'
  · simp [Value.ownBlock] at hx; subst hx; exact owN_new (by omega)
  · simp [Value.ownBlock] at hx; subst hx; exact owN_new (by omega)

set_option maxRecDepth 100000 in
set_option maxHeartbeats 8000000 in
theorem pactPaths_walk (zs : List Int) (p : Option Addr) (cap : Nat) (kd : Int) (w : World) (hz : ∀ i, i < zs.length → ∃ a, p = some a ∧ a.block < w.heap.size ∧ w.cell? (a.add i) = some (.int .u8 (zs.getD i 0))) (hzw : ∀ n ∈ zs, (Lit.int .u8 n).wf = true) (hkw : (Lit.int .u8 kd).wf = true) :
    Calls Try.prog 4 #[.slice p zs.length cap, .int .u8 kd] w fun e w' => e = .returned (.bool true) ∧ w.grownBy w' none := by
  by_cases h30 : 30 < zs.length
  · have h1 : (30 : Int) < (zs.length : Int) := by omega
    go_enter Try.func4, Try.ntmps4
    go_wp2_with (first
      | (go_at_call 32; (refine (begunPact_calls w).mono ?_; rintro e wb ⟨rfl, hgb⟩))
      | fail)
    go_ret
    exact ⟨rfl, hgb.keepAll⟩
  have h1 : ¬ (30 : Int) < (zs.length : Int) := by omega
  have hm : (Lit.int .u64 25769803777).wf = true := by decide
  obtain ⟨K, rfl, hK⟩ := wf_u8n hkw
  obtain ⟨what, hwhat⟩ : ∃ what : Nat, what = 1 + K % 3 := ⟨_, rfl⟩
  have hw1 : 1 ≤ what := by omega
  have hw3 : what ≤ 3 := by omega
  have hwe : 1 + (K : Int) % 3 = (what : Int) := by omega
  have hww := IntWalk.i64_in (what : Int) (by omega)
  clear hwhat hkw
  go_enter Try.func4, Try.ntmps4
  go_upto_if 56 with (first
    | (go_at_call 32; (refine (begunPact_calls w).mono ?_; rintro e wb ⟨rfl, hgb⟩))
    | (go_at_call 33; (refine (new_any wb).mono ?_; rintro e w1 ⟨P, ow1, rfl, hA1, hlo1, hg1⟩))
    | fail)
  have hG1 : GrowBut w w1 [] := hgb.trans hg1
  have hlow : ∀ x, x < w.heap.size → ow1 x = -2 := fun x hx => hlo1 x (Nat.lt_of_lt_of_le hx hgb.size)
  clear hgb hg1 hlo1
  go_cut [6] from 56 (fun v6 wc => v6 = .int .i64 what ∧ DealAt wc (owN ow1 w1 (-2)) (w1.heap.size + 1 + 1) (pD what) ∧ GrowBut w1 wc [])
  case first =>
    have hg3 := fun (o o' o'' : Obj) => ((GrowBut.alloc w1 o []).trans (GrowBut.alloc _ o' [])).trans (GrowBut.alloc _ o'' [])
    by_cases h3 : (what : Int) = 3
    · have h3' : what = 3 := by omega
      subst h3'
      go_wp2_with fail
      go_meet
      case rel => exact ⟨rfl, pathLit w1 ow1 3 1 rfl, hg3 _ _ _⟩
    · go_wp2_with fail
      go_meet
      case rel => exact ⟨rfl, pathLit w1 ow1 what 4 (by rw [if_neg h3]), hg3 _ _ _⟩
  case rest =>
    obtain ⟨rfl, hDl, hg3⟩ := hcut
    have hA2 := hA1.kept (ow' := owN ow1 w1 (-2)) hg3 (fun x hx => by cases hx) owN_old
    have hBg := begin_one hA2 5 what 2 (by omega) hw1 hw3 (by omega) (by omega) 25769803777 (by omega)
    have hG2 := hG1.trans hg3
    have hlow2 : ∀ x, x < w.heap.size → owN ow1 w1 (-2) x = -2 := fun x hx => by rw [owN_old _ (Nat.lt_of_lt_of_le hx hG1.size)]; exact hlow x hx
    have hgD : w1.heap.size + 1 + 1 ≥ w.heap.size := by have := hG1.size; omega
    clear hA1 hA2 hG1 hg3 hlow
    generalize owN ow1 w1 (-2) = owq at hDl hBg hlow2
    generalize w1.heap.size + 1 + 1 = D at hDl hgD ⊢
    go_upto_region 14 with (first
      | (go_at_call 34; (refine hBg.mono ?_; clear hBg; rintro e w2 ⟨ow2, rfl, hO2, hk2⟩; have hDl2 := hDl.kept hk2))
      | fail)
    have hG3 := hk2.grow hG2 hlow2
    have hlow3 : ∀ x, x < w.heap.size → ow2 x = -2 := fun x hx => by rw [hk2.old (Nat.lt_of_lt_of_le hx hG2.size)]; exact hlow2 x hx
    have hDn := cell_lt hDl2.2.choose_spec.choose_spec.1
    clear hDl hG2 hlow2 hk2
    have hnr : newR (5 : Nat) what (2 : Nat) = pS what [] := rfl
    rw [hnr] at hO2
    have hGa := GrowBut.alloc w2 (.cells #[.bool false, .bool false, .bool false, .bool false] 61) []
    have hT3 : TookAt (w2.alloc (.cells #[.bool false, .bool false, .bool false, .bool false] 61)) (owN ow2 w2 (-2)) w2.heap.size (fun _ => false) := by
      refine ⟨owN_new (Nat.le_refl _), Typed.alloc _ _ _, fun k hk => ?_, fun k hk => by go_simp⟩
      have : k = 0 ∨ k = 1 ∨ k = 2 ∨ k = 3 := by omega
      rcases this with rfl | rfl | rfl | rfl <;> go_simp
    have hO3 := hO2.quiet hGa
    have hDl3 := hDl2.kept (Kept.quiet (ow := ow2) hGa)
    have hG4 := hG3.trans hGa
    have hlow4 : ∀ x, x < w.heap.size → owN ow2 w2 (-2) x = -2 := fun x hx => by rw [owN_old _ (Nat.lt_of_lt_of_le hx hG3.size)]; exact hlow3 x hx
    have hTB : w2.heap.size ≠ D ∧ w.heap.size ≤ w2.heap.size := by have := hG3.size; simp only at hDn; omega
    go_wp2_with fail
    clear hO2 hDl2 hG3 hlow3 hGa hDn
    generalize owN ow2 w2 (-2) = owr at hT3 hO3 hDl3 hlow4
    generalize w2.heap.size = TB at hT3 hTB ⊢
    go_loopw [10, 11, 13] (fun v10 v11 v13 wx => ∃ (i bt : Nat) (st : Int) (ow : Nat → Int) (o : Option PactR) (ev : List Int) (f : Nat → Bool), v10 = .int .i64 st ∧ v11 = .int .i64 bt ∧ v13 = .int .i64 i ∧ i ≤ zs.length ∧ ev.length ≤ 1 + i ∧ One wx ow P 25769803777 (2 + 2 * i) o ev ∧ PInv what o ev st bt f ∧ DealAt wx ow D (pD what) ∧ TookAt wx ow TB f ∧ GrowBut w wx [] ∧ (∀ x, x < w.heap.size → ow x = -2)) (fun _ _ v13 _ => zs.length - intOf v13)
    case atStart => exact ⟨0, 0, 1, owr, _, _, _, rfl, rfl, rfl, by omega, by simp, hO3, p_init what, hDl3, hT3, hG4, hlow4⟩
    case round =>
      obtain ⟨i, bt, st, ow, o, ev, f, rfl, rfl, rfl, hi, hel, hO, hI, hDl, hT, hG, hlo⟩ := hrel
      by_cases hlz : i < zs.length
      · have hlz' : (i : Int) < (zs.length : Int) := by omega
        obtain ⟨az, rfl, hazb, hcz⟩ := hz i hlz
        have hczr := hG.cell hcz (by simp)
        obtain ⟨Z, hZ, hZ2⟩ := wf_u8n (hzw _ (getD_memI hlz))
        rw [hZ] at hczr
        obtain ⟨q, hq⟩ : ∃ q, q = Z / 8 % 4 := ⟨_, rfl⟩
        have hq4 : q < 4 := by omega
        have hqq : (Z : Int) / 8 % 4 = (q : Int) := by omega
        obtain ⟨c, hc⟩ : ∃ c, c = Z % 8 := ⟨_, rfl⟩
        have hc8 : c < 8 := by omega
        have hcc : (Z : Int) % 8 = (c : Int) := by omega
        have hbt := hI.bt2
        clear hq hc
        go_wp2_with fail
        go_loopw [15, 16] (fun v15 v16 wx => ∃ j : Nat, v16 = .int .i64 j ∧ j ≤ 4 ∧ v15 = .int .i64 (cntB f j) ∧ wx = wr) (fun _ v16 _ => 4 - intOf v16)
        case atStart => exact ⟨0, rfl, by omega, rfl, rfl⟩
        case round =>
          obtain ⟨j, rfl, hj, rfl, rfl⟩ := hrel
          have hsuc := cntB_succ f j
          have hcl := cntB_le f j
          by_cases hj4 : j < 4
          · have hj4' : (j : Int) < 4 := by omega
            have hcj := hT.c j hj4
            cases hfj : f j with
            | true =>
              rw [hfj] at hcj hsuc
              simp only [if_true] at hsuc
              have hw := IntWalk.i64_in ((cntB f j : Int) + 1) (by omega)
              go_wp2_with fail
              exact ⟨⟨j + 1, by simp, by omega, by rw [hsuc]; simp, by first | rfl | trivial⟩, by simp [intOf]; omega⟩
            | false =>
              rw [hfj] at hcj hsuc
              simp only [Bool.false_eq_true, if_false, Nat.add_zero] at hsuc
              go_wp2_with fail
              exact ⟨⟨j + 1, by simp, by omega, by rw [hsuc], by first | rfl | trivial⟩, by simp [intOf]; omega⟩
          · have hge : ¬ (j : Int) < 4 := by omega
            have hje : j = 4 := by omega
            subst hje
            clear hsuc hcl
            go_upto_block 4 with fail
            go_cut [10, 11, 14, 15, 16, 17, 18, 19, 20, 21, 22, 23, 24, 25, 26, 27, 28, 29, 30, 31, 32, 33, 34, 35] from 69 (fun v10 v11 v14 v15 v16 v17 v18 v19 v20 v21 v22 v23 v24 v25 v26 v27 v28 v29 v30 v31 v32 v33 v34 v35 wc => ∃ (bt : Nat) (st : Int) (ow : Nat → Int) (o : Option PactR) (ev : List Int) (f : Nat → Bool), v10 = .int .i64 st ∧ v11 = .int .i64 bt ∧ ev.length ≤ 2 + i ∧ One wc ow P 25769803777 (4 + 2 * i) o ev ∧ PInv what o ev st bt f ∧ DealAt wc ow D (pD what) ∧ TookAt wc ow TB f ∧ GrowBut w wc [] ∧ (∀ x, x < w.heap.size → ow x = -2))
            case first =>
              have hcs : c = 0 ∨ c = 1 ∨ c = 2 ∨ c = 3 ∨ c = 4 ∨ c = 5 ∨ c = 6 ∨ c = 7 := by omega
              rcases hcs with rfl | rfl | rfl | rfl | rfl | rfl | rfl | rfl
              · as_aux_lemma =>
                  · rcases hI.alt with ⟨rfl, rfl, hf, hp⟩ | ⟨rfl, rfl, hf, hp⟩ | ⟨rfl, ts, rfl, hn, hf, hs, h3, hp⟩
                    · have hPc := piece_one (hO.quiet (GrowBut.alloc wr (.cells #[.int .u8 1] 5) [])) 5 hm (some ⟨wr.heap.size, 0, none⟩) 1 [1] (by simp) (fun _ => ⟨wr.heap.size, 0, rfl, one_byte wr 1⟩)
                      rw [show mayPc (none) 5 [1] = false from rfl, show pieceO (none) 5 [1] = none from rfl] at hPc
                      go_wp2_with (first
                        | (go_at_call 35; (refine hPc.mono ?_; clear hPc; rintro e w3 ⟨ow3, vb, rfl, _, hO3, hk3'⟩))
                        | fail)
                      have hkA := (Kept.quiet (ow := ow) (GrowBut.alloc wr (.cells #[.int .u8 1] 5) [])).trans hk3'
                      go_meet
                      case rel => exact ⟨bt, _, ow3, _, ev, f, by first | rfl | simp, by first | rfl | simp, by first | (simp only [List.length_append, List.length_cons, List.length_nil]; omega) | omega, hO3.more (by omega), hI, hDl.kept hkA, hT.kept hkA, hkA.grow hG hlo, fun x hx => by rw [hkA.old (Nat.lt_of_lt_of_le hx hG.size)]; exact hlo x hx⟩
                    · have hb : bt = 0 ∨ bt = 1 ∨ bt = 2 := by omega
                      rcases hb with rfl | rfl | rfl
                      · have hPc := piece_one (hO.quiet (GrowBut.alloc wr (.cells #[.int .u8 1] 5) [])) 5 hm (some ⟨wr.heap.size, 0, none⟩) 1 [1] (by simp) (fun _ => ⟨wr.heap.size, 0, rfl, one_byte wr 1⟩)
                        rw [show mayPc (some (pS what (List.replicate 0 1))) 5 [1] = true from rfl, show pieceO (some (pS what (List.replicate 0 1))) 5 [1] = some (pS what (List.replicate 1 1)) from rfl] at hPc
                        go_wp2_with (first
                          | (go_at_call 35; (refine hPc.mono ?_; clear hPc; rintro e w3 ⟨ow3, vb, rfl, _, hO3, hk3'⟩))
                          | fail)
                        have hkA := (Kept.quiet (ow := ow) (GrowBut.alloc wr (.cells #[.int .u8 1] 5) [])).trans hk3'
                        go_meet
                        case rel => exact ⟨1, _, ow3, _, ev, f, by first | rfl | simp, by first | rfl | simp, by first | (simp only [List.length_append, List.length_cons, List.length_nil]; omega) | omega, hO3.more (by omega), p_piece (by omega) hf hp, hDl.kept hkA, hT.kept hkA, hkA.grow hG hlo, fun x hx => by rw [hkA.old (Nat.lt_of_lt_of_le hx hG.size)]; exact hlo x hx⟩
                      · have hPc := piece_one (hO.quiet (GrowBut.alloc wr (.cells #[.int .u8 1] 5) [])) 5 hm (some ⟨wr.heap.size, 0, none⟩) 1 [1] (by simp) (fun _ => ⟨wr.heap.size, 0, rfl, one_byte wr 1⟩)
                        rw [show mayPc (some (pS what (List.replicate 1 1))) 5 [1] = true from rfl, show pieceO (some (pS what (List.replicate 1 1))) 5 [1] = some (pS what (List.replicate 2 1)) from rfl] at hPc
                        go_wp2_with (first
                          | (go_at_call 35; (refine hPc.mono ?_; clear hPc; rintro e w3 ⟨ow3, vb, rfl, _, hO3, hk3'⟩))
                          | fail)
                        have hkA := (Kept.quiet (ow := ow) (GrowBut.alloc wr (.cells #[.int .u8 1] 5) [])).trans hk3'
                        go_meet
                        case rel => exact ⟨2, _, ow3, _, ev, f, by first | rfl | simp, by first | rfl | simp, by first | (simp only [List.length_append, List.length_cons, List.length_nil]; omega) | omega, hO3.more (by omega), p_piece (by omega) hf hp, hDl.kept hkA, hT.kept hkA, hkA.grow hG hlo, fun x hx => by rw [hkA.old (Nat.lt_of_lt_of_le hx hG.size)]; exact hlo x hx⟩
                      · have hPc := piece_one (hO.quiet (GrowBut.alloc wr (.cells #[.int .u8 1] 5) [])) 5 hm (some ⟨wr.heap.size, 0, none⟩) 1 [1] (by simp) (fun _ => ⟨wr.heap.size, 0, rfl, one_byte wr 1⟩)
                        rw [show mayPc (some (pS what (List.replicate 2 1))) 5 [1] = false from rfl, show pieceO (some (pS what (List.replicate 2 1))) 5 [1] = some (pS what (List.replicate 2 1)) from rfl] at hPc
                        go_wp2_with (first
                          | (go_at_call 35; (refine hPc.mono ?_; clear hPc; rintro e w3 ⟨ow3, vb, rfl, _, hO3, hk3'⟩))
                          | fail)
                        have hkA := (Kept.quiet (ow := ow) (GrowBut.alloc wr (.cells #[.int .u8 1] 5) [])).trans hk3'
                        go_meet
                        case rel => exact ⟨2, _, ow3, _, ev, f, by first | rfl | simp, by first | rfl | simp, by first | (simp only [List.length_append, List.length_cons, List.length_nil]; omega) | omega, hO3.more (by omega), hI, hDl.kept hkA, hT.kept hkA, hkA.grow hG hlo, fun x hx => by rw [hkA.old (Nat.lt_of_lt_of_le hx hG.size)]; exact hlo x hx⟩
                    · have hPc := piece_one (hO.quiet (GrowBut.alloc wr (.cells #[.int .u8 1] 5) [])) 5 hm (some ⟨wr.heap.size, 0, none⟩) 1 [1] (by simp) (fun _ => ⟨wr.heap.size, 0, rfl, one_byte wr 1⟩)
                      rw [show mayPc (some (pO what ts)) 5 [1] = false from rfl, show pieceO (some (pO what ts)) 5 [1] = some (pO what ts) from rfl] at hPc
                      go_wp2_with (first
                        | (go_at_call 35; (refine hPc.mono ?_; clear hPc; rintro e w3 ⟨ow3, vb, rfl, _, hO3, hk3'⟩))
                        | fail)
                      have hkA := (Kept.quiet (ow := ow) (GrowBut.alloc wr (.cells #[.int .u8 1] 5) [])).trans hk3'
                      go_meet
                      case rel => exact ⟨bt, _, ow3, _, ev, f, by first | rfl | simp, by first | rfl | simp, by first | (simp only [List.length_append, List.length_cons, List.length_nil]; omega) | omega, hO3.more (by omega), hI, hDl.kept hkA, hT.kept hkA, hkA.grow hG hlo, fun x hx => by rw [hkA.old (Nat.lt_of_lt_of_le hx hG.size)]; exact hlo x hx⟩
              · as_aux_lemma =>
                  · rcases hI.alt with ⟨rfl, rfl, hf, hp⟩ | ⟨rfl, rfl, hf, hp⟩ | ⟨rfl, ts, rfl, hn, hf, hs, h3, hp⟩
                    · have hPc := piece_one (hO.quiet (GrowBut.alloc wr (.cells #[.int .u8 1] 5) [])) 5 hm (some ⟨wr.heap.size, 0, none⟩) 1 [1] (by simp) (fun _ => ⟨wr.heap.size, 0, rfl, one_byte wr 1⟩)
                      rw [show mayPc (none) 5 [1] = false from rfl, show pieceO (none) 5 [1] = none from rfl] at hPc
                      go_wp2_with (first
                        | (go_at_call 35; (refine hPc.mono ?_; clear hPc; rintro e w3 ⟨ow3, vb, rfl, _, hO3, hk3'⟩))
                        | fail)
                      have hkA := (Kept.quiet (ow := ow) (GrowBut.alloc wr (.cells #[.int .u8 1] 5) [])).trans hk3'
                      go_meet
                      case rel => exact ⟨bt, _, ow3, _, ev, f, by first | rfl | simp, by first | rfl | simp, by first | (simp only [List.length_append, List.length_cons, List.length_nil]; omega) | omega, hO3.more (by omega), hI, hDl.kept hkA, hT.kept hkA, hkA.grow hG hlo, fun x hx => by rw [hkA.old (Nat.lt_of_lt_of_le hx hG.size)]; exact hlo x hx⟩
                    · have hb : bt = 0 ∨ bt = 1 ∨ bt = 2 := by omega
                      rcases hb with rfl | rfl | rfl
                      · have hPc := piece_one (hO.quiet (GrowBut.alloc wr (.cells #[.int .u8 1] 5) [])) 5 hm (some ⟨wr.heap.size, 0, none⟩) 1 [1] (by simp) (fun _ => ⟨wr.heap.size, 0, rfl, one_byte wr 1⟩)
                        rw [show mayPc (some (pS what (List.replicate 0 1))) 5 [1] = true from rfl, show pieceO (some (pS what (List.replicate 0 1))) 5 [1] = some (pS what (List.replicate 1 1)) from rfl] at hPc
                        go_wp2_with (first
                          | (go_at_call 35; (refine hPc.mono ?_; clear hPc; rintro e w3 ⟨ow3, vb, rfl, _, hO3, hk3'⟩))
                          | fail)
                        have hkA := (Kept.quiet (ow := ow) (GrowBut.alloc wr (.cells #[.int .u8 1] 5) [])).trans hk3'
                        go_meet
                        case rel => exact ⟨1, _, ow3, _, ev, f, by first | rfl | simp, by first | rfl | simp, by first | (simp only [List.length_append, List.length_cons, List.length_nil]; omega) | omega, hO3.more (by omega), p_piece (by omega) hf hp, hDl.kept hkA, hT.kept hkA, hkA.grow hG hlo, fun x hx => by rw [hkA.old (Nat.lt_of_lt_of_le hx hG.size)]; exact hlo x hx⟩
                      · have hPc := piece_one (hO.quiet (GrowBut.alloc wr (.cells #[.int .u8 1] 5) [])) 5 hm (some ⟨wr.heap.size, 0, none⟩) 1 [1] (by simp) (fun _ => ⟨wr.heap.size, 0, rfl, one_byte wr 1⟩)
                        rw [show mayPc (some (pS what (List.replicate 1 1))) 5 [1] = true from rfl, show pieceO (some (pS what (List.replicate 1 1))) 5 [1] = some (pS what (List.replicate 2 1)) from rfl] at hPc
                        go_wp2_with (first
                          | (go_at_call 35; (refine hPc.mono ?_; clear hPc; rintro e w3 ⟨ow3, vb, rfl, _, hO3, hk3'⟩))
                          | fail)
                        have hkA := (Kept.quiet (ow := ow) (GrowBut.alloc wr (.cells #[.int .u8 1] 5) [])).trans hk3'
                        go_meet
                        case rel => exact ⟨2, _, ow3, _, ev, f, by first | rfl | simp, by first | rfl | simp, by first | (simp only [List.length_append, List.length_cons, List.length_nil]; omega) | omega, hO3.more (by omega), p_piece (by omega) hf hp, hDl.kept hkA, hT.kept hkA, hkA.grow hG hlo, fun x hx => by rw [hkA.old (Nat.lt_of_lt_of_le hx hG.size)]; exact hlo x hx⟩
                      · have hPc := piece_one (hO.quiet (GrowBut.alloc wr (.cells #[.int .u8 1] 5) [])) 5 hm (some ⟨wr.heap.size, 0, none⟩) 1 [1] (by simp) (fun _ => ⟨wr.heap.size, 0, rfl, one_byte wr 1⟩)
                        rw [show mayPc (some (pS what (List.replicate 2 1))) 5 [1] = false from rfl, show pieceO (some (pS what (List.replicate 2 1))) 5 [1] = some (pS what (List.replicate 2 1)) from rfl] at hPc
                        go_wp2_with (first
                          | (go_at_call 35; (refine hPc.mono ?_; clear hPc; rintro e w3 ⟨ow3, vb, rfl, _, hO3, hk3'⟩))
                          | fail)
                        have hkA := (Kept.quiet (ow := ow) (GrowBut.alloc wr (.cells #[.int .u8 1] 5) [])).trans hk3'
                        go_meet
                        case rel => exact ⟨2, _, ow3, _, ev, f, by first | rfl | simp, by first | rfl | simp, by first | (simp only [List.length_append, List.length_cons, List.length_nil]; omega) | omega, hO3.more (by omega), hI, hDl.kept hkA, hT.kept hkA, hkA.grow hG hlo, fun x hx => by rw [hkA.old (Nat.lt_of_lt_of_le hx hG.size)]; exact hlo x hx⟩
                    · have hPc := piece_one (hO.quiet (GrowBut.alloc wr (.cells #[.int .u8 1] 5) [])) 5 hm (some ⟨wr.heap.size, 0, none⟩) 1 [1] (by simp) (fun _ => ⟨wr.heap.size, 0, rfl, one_byte wr 1⟩)
                      rw [show mayPc (some (pO what ts)) 5 [1] = false from rfl, show pieceO (some (pO what ts)) 5 [1] = some (pO what ts) from rfl] at hPc
                      go_wp2_with (first
                        | (go_at_call 35; (refine hPc.mono ?_; clear hPc; rintro e w3 ⟨ow3, vb, rfl, _, hO3, hk3'⟩))
                        | fail)
                      have hkA := (Kept.quiet (ow := ow) (GrowBut.alloc wr (.cells #[.int .u8 1] 5) [])).trans hk3'
                      go_meet
                      case rel => exact ⟨bt, _, ow3, _, ev, f, by first | rfl | simp, by first | rfl | simp, by first | (simp only [List.length_append, List.length_cons, List.length_nil]; omega) | omega, hO3.more (by omega), hI, hDl.kept hkA, hT.kept hkA, hkA.grow hG hlo, fun x hx => by rw [hkA.old (Nat.lt_of_lt_of_le hx hG.size)]; exact hlo x hx⟩
              · as_aux_lemma =>
                  · rcases hI.alt with ⟨rfl, rfl, hf, hp⟩ | ⟨rfl, rfl, hf, hp⟩ | ⟨rfl, ts, rfl, hn, hf, hs, h3, hp⟩
                    · obtain ⟨hDo, v7, v8, d0, d1, d2, d3, d4, r7, r8⟩ := hDl
                      have hlr : (pD what).recvs.length ≤ 10000 := by show (pRs what).length ≤ _; unfold pRs; split <;> simp
                      have hOf := offer_one (hO.quiet (GrowBut.alloc wr (.cells #[.int .i64 9] 3) [])) hm (by omega) (by omega) (pD what) [9] (v7 := v7) (v8 := v8) (r7.1.alloc _) (r8.1.alloc _) (World.ownsRow_lit (base := 0) (size := 1) (e := 3) wr #[.int .i64 9] 1 (by omega) (by unfold maxLen; omega) rfl) hlr (by show ([(1, 1)] : List (Int × Int)).length ≤ _; simp) (by simp)
                      clear hlr
                      rw [show isFull (none) = false from rfl, show offerO (none) (pD what) [9] = none from rfl, show offerE (none) ev = ev from rfl] at hOf
                      obtain ⟨q7, e7, rfl⟩ := row_form r7.1
                      obtain ⟨q8, e8, rfl⟩ := row_form r8.1
                      go_wp2_with (first
                        | (go_at_call 36; (refine hOf.mono ?_; clear hOf; rintro e w3 ⟨ow3, rfl, hO3, hk3'⟩))
                        | fail)
                      have hkA := (Kept.quiet (ow := ow) (GrowBut.alloc wr (.cells #[.int .i64 9] 3) [])).trans hk3'
                      have hDl3 : DealAt w3 ow3 D (pD what) := DealAt.kept ⟨hDo, _, _, d0, d1, d2, d3, d4, r7, r8⟩ hkA
                      go_meet
                      case rel => exact ⟨bt, _, ow3, _, ev, f, by first | rfl | simp, by first | rfl | simp, by first | (simp only [List.length_append, List.length_cons, List.length_nil]; omega) | omega, hO3.more (by omega), hI, hDl3, hT.kept hkA, hkA.grow hG hlo, fun x hx => by rw [hkA.old (Nat.lt_of_lt_of_le hx hG.size)]; exact hlo x hx⟩
                    · have hb : bt = 0 ∨ bt = 1 ∨ bt = 2 := by omega
                      rcases hb with rfl | rfl | rfl
                      · obtain ⟨hDo, v7, v8, d0, d1, d2, d3, d4, r7, r8⟩ := hDl
                        have hlr : (pD what).recvs.length ≤ 10000 := by show (pRs what).length ≤ _; unfold pRs; split <;> simp
                        have hOf := offer_one (hO.quiet (GrowBut.alloc wr (.cells #[.int .i64 9] 3) [])) hm (by omega) (by omega) (pD what) [9] (v7 := v7) (v8 := v8) (r7.1.alloc _) (r8.1.alloc _) (World.ownsRow_lit (base := 0) (size := 1) (e := 3) wr #[.int .i64 9] 1 (by omega) (by unfold maxLen; omega) rfl) hlr (by show ([(1, 1)] : List (Int × Int)).length ≤ _; simp) (by simp)
                        clear hlr
                        rw [show isFull (some (pS what (List.replicate 0 1))) = false from rfl, show offerO (some (pS what (List.replicate 0 1))) (pD what) [9] = some (pS what (List.replicate 0 1)) from rfl, show offerE (some (pS what (List.replicate 0 1))) ev = ev from rfl] at hOf
                        obtain ⟨q7, e7, rfl⟩ := row_form r7.1
                        obtain ⟨q8, e8, rfl⟩ := row_form r8.1
                        go_wp2_with (first
                          | (go_at_call 36; (refine hOf.mono ?_; clear hOf; rintro e w3 ⟨ow3, rfl, hO3, hk3'⟩))
                          | fail)
                        have hkA := (Kept.quiet (ow := ow) (GrowBut.alloc wr (.cells #[.int .i64 9] 3) [])).trans hk3'
                        have hDl3 : DealAt w3 ow3 D (pD what) := DealAt.kept ⟨hDo, _, _, d0, d1, d2, d3, d4, r7, r8⟩ hkA
                        go_meet
                        case rel => exact ⟨0, _, ow3, _, ev, f, by first | rfl | simp, by first | rfl | simp, by first | (simp only [List.length_append, List.length_cons, List.length_nil]; omega) | omega, hO3.more (by omega), hI, hDl3, hT.kept hkA, hkA.grow hG hlo, fun x hx => by rw [hkA.old (Nat.lt_of_lt_of_le hx hG.size)]; exact hlo x hx⟩
                      · obtain ⟨hDo, v7, v8, d0, d1, d2, d3, d4, r7, r8⟩ := hDl
                        have hlr : (pD what).recvs.length ≤ 10000 := by show (pRs what).length ≤ _; unfold pRs; split <;> simp
                        have hOf := offer_one (hO.quiet (GrowBut.alloc wr (.cells #[.int .i64 9] 3) [])) hm (by omega) (by omega) (pD what) [9] (v7 := v7) (v8 := v8) (r7.1.alloc _) (r8.1.alloc _) (World.ownsRow_lit (base := 0) (size := 1) (e := 3) wr #[.int .i64 9] 1 (by omega) (by unfold maxLen; omega) rfl) hlr (by show ([(1, 1)] : List (Int × Int)).length ≤ _; simp) (by simp)
                        clear hlr
                        rw [show isFull (some (pS what (List.replicate 1 1))) = false from rfl, show offerO (some (pS what (List.replicate 1 1))) (pD what) [9] = some (pS what (List.replicate 1 1)) from rfl, show offerE (some (pS what (List.replicate 1 1))) ev = ev from rfl] at hOf
                        obtain ⟨q7, e7, rfl⟩ := row_form r7.1
                        obtain ⟨q8, e8, rfl⟩ := row_form r8.1
                        go_wp2_with (first
                          | (go_at_call 36; (refine hOf.mono ?_; clear hOf; rintro e w3 ⟨ow3, rfl, hO3, hk3'⟩))
                          | fail)
                        have hkA := (Kept.quiet (ow := ow) (GrowBut.alloc wr (.cells #[.int .i64 9] 3) [])).trans hk3'
                        have hDl3 : DealAt w3 ow3 D (pD what) := DealAt.kept ⟨hDo, _, _, d0, d1, d2, d3, d4, r7, r8⟩ hkA
                        go_meet
                        case rel => exact ⟨1, _, ow3, _, ev, f, by first | rfl | simp, by first | rfl | simp, by first | (simp only [List.length_append, List.length_cons, List.length_nil]; omega) | omega, hO3.more (by omega), hI, hDl3, hT.kept hkA, hkA.grow hG hlo, fun x hx => by rw [hkA.old (Nat.lt_of_lt_of_le hx hG.size)]; exact hlo x hx⟩
                      · obtain ⟨hDo, v7, v8, d0, d1, d2, d3, d4, r7, r8⟩ := hDl
                        have hlr : (pD what).recvs.length ≤ 10000 := by show (pRs what).length ≤ _; unfold pRs; split <;> simp
                        have hOf := offer_one (hO.quiet (GrowBut.alloc wr (.cells #[.int .i64 9] 3) [])) hm (by omega) (by omega) (pD what) [9] (v7 := v7) (v8 := v8) (r7.1.alloc _) (r8.1.alloc _) (World.ownsRow_lit (base := 0) (size := 1) (e := 3) wr #[.int .i64 9] 1 (by omega) (by unfold maxLen; omega) rfl) hlr (by show ([(1, 1)] : List (Int × Int)).length ≤ _; simp) (by simp)
                        clear hlr
                        rw [show isFull (some (pS what (List.replicate 2 1))) = true from rfl, show offerO (some (pS what (List.replicate 2 1))) (pD what) [9] = some (pO what []) from rfl, show offerE (some (pS what (List.replicate 2 1))) ev = ev ++ [2] from rfl] at hOf
                        obtain ⟨q7, e7, rfl⟩ := row_form r7.1
                        obtain ⟨q8, e8, rfl⟩ := row_form r8.1
                        go_wp2_with (first
                          | (go_at_call 36; (refine hOf.mono ?_; clear hOf; rintro e w3 ⟨ow3, rfl, hO3, hk3'⟩))
                          | fail)
                        have hkA := (Kept.quiet (ow := ow) (GrowBut.alloc wr (.cells #[.int .i64 9] 3) [])).trans hk3'
                        have hDl3 : DealAt w3 ow3 D (pD what) := DealAt.kept ⟨hDo, _, _, d0, d1, d2, d3, d4, r7, r8⟩ hkA
                        go_meet
                        case rel => exact ⟨2, _, ow3, _, (ev ++ [2]), f, by first | rfl | simp, by first | rfl | simp, by first | (simp only [List.length_append, List.length_cons, List.length_nil]; omega) | omega, hO3.more (by omega), p_offer hf hp, hDl3, hT.kept hkA, hkA.grow hG hlo, fun x hx => by rw [hkA.old (Nat.lt_of_lt_of_le hx hG.size)]; exact hlo x hx⟩
                    · obtain ⟨hDo, v7, v8, d0, d1, d2, d3, d4, r7, r8⟩ := hDl
                      have hlr : (pD what).recvs.length ≤ 10000 := by show (pRs what).length ≤ _; unfold pRs; split <;> simp
                      have hOf := offer_one (hO.quiet (GrowBut.alloc wr (.cells #[.int .i64 9] 3) [])) hm (by omega) (by omega) (pD what) [9] (v7 := v7) (v8 := v8) (r7.1.alloc _) (r8.1.alloc _) (World.ownsRow_lit (base := 0) (size := 1) (e := 3) wr #[.int .i64 9] 1 (by omega) (by unfold maxLen; omega) rfl) hlr (by show ([(1, 1)] : List (Int × Int)).length ≤ _; simp) (by simp)
                      clear hlr
                      rw [show isFull (some (pO what ts)) = false from rfl, show offerO (some (pO what ts)) (pD what) [9] = some (pO what ts) from rfl, show offerE (some (pO what ts)) ev = ev from rfl] at hOf
                      obtain ⟨q7, e7, rfl⟩ := row_form r7.1
                      obtain ⟨q8, e8, rfl⟩ := row_form r8.1
                      go_wp2_with (first
                        | (go_at_call 36; (refine hOf.mono ?_; clear hOf; rintro e w3 ⟨ow3, rfl, hO3, hk3'⟩))
                        | fail)
                      have hkA := (Kept.quiet (ow := ow) (GrowBut.alloc wr (.cells #[.int .i64 9] 3) [])).trans hk3'
                      have hDl3 : DealAt w3 ow3 D (pD what) := DealAt.kept ⟨hDo, _, _, d0, d1, d2, d3, d4, r7, r8⟩ hkA
                      go_meet
                      case rel => exact ⟨bt, _, ow3, _, ev, f, by first | rfl | simp, by first | rfl | simp, by first | (simp only [List.length_append, List.length_cons, List.length_nil]; omega) | omega, hO3.more (by omega), hI, hDl3, hT.kept hkA, hkA.grow hG hlo, fun x hx => by rw [hkA.old (Nat.lt_of_lt_of_le hx hG.size)]; exact hlo x hx⟩
              · as_aux_lemma =>
                  · rcases hI.alt with ⟨rfl, rfl, hf, hp⟩ | ⟨rfl, rfl, hf, hp⟩ | ⟨rfl, ts, rfl, hn, hf, hs, h3, hp⟩
                    · have hqw : (Lit.int .i64 (q : Int)).wf = true := wf_small (by omega) (by omega)
                      have hTk := take_one hO (q : Int) hm hqw (by omega) (by omega)
                      have hmy : mayF none (q : Int) 3 = -2 := rfl
                      have htk := tk_no (ev := ev) (o := none) (who := (q : Int)) (by rw [hmy]; decide)
                      rw [hmy] at hTk
                      rw [htk.1, htk.2.1, htk.2.2] at hTk
                      clear hmy htk
                      go_wp2_with (first
                        | (go_at_call 37; (refine hTk.mono ?_; clear hTk; rintro e w3 ⟨ow3, vd, vf, rfl, hvd, _, hO3, hk3⟩; obtain ⟨v7, v8, rfl, r7, r8⟩ := hvd; obtain ⟨s7, c7, rfl⟩ := row_form r7.1; obtain ⟨s8, c8, rfl⟩ := row_form r8.1; have hka := Kept.quiet (ow := ow3) (GrowBut.alloc w3 (.cells #[.int .i64 (toldD (none) (-2)).kind, .int .i64 (toldD (none) (-2)).sender, .bool (toldD (none) (-2)).zero, .slice s7 (toldD (none) (-2)).recvs.length c7, .slice s8 (toldD (none) (-2)).spans.length c8] 58) []); have hDl3 := (hDl.kept hk3).kept hka; have hT3 := (hT.kept hk3).kept hka))
                        | fail)
                      have hkA := hk3.trans hka
                      go_meet
                      case rel => exact ⟨bt, _, (owN ow3 w3 (-2)), _, ev, f, by first | rfl | simp, by first | rfl | simp, by first | (simp only [List.length_append, List.length_cons, List.length_nil]; omega) | omega, (hO3.quiet (GrowBut.alloc _ _ _)).more (by omega), hI, hDl3, hT3, hkA.grow hG hlo, fun x hx => by rw [hkA.old (Nat.lt_of_lt_of_le hx hG.size)]; exact hlo x hx⟩
                    · have hqw : (Lit.int .i64 (q : Int)).wf = true := wf_small (by omega) (by omega)
                      have hTk := take_one hO (q : Int) hm hqw (by omega) (by omega)
                      have hmy : mayF (some (pS what (List.replicate bt 1))) (q : Int) 3 = -2 := rfl
                      have htk := tk_no (ev := ev) (o := some (pS what (List.replicate bt 1))) (who := (q : Int)) (by rw [hmy]; decide)
                      rw [hmy] at hTk
                      rw [htk.1, htk.2.1, htk.2.2] at hTk
                      clear hmy htk
                      go_wp2_with (first
                        | (go_at_call 37; (refine hTk.mono ?_; clear hTk; rintro e w3 ⟨ow3, vd, vf, rfl, hvd, _, hO3, hk3⟩; obtain ⟨v7, v8, rfl, r7, r8⟩ := hvd; obtain ⟨s7, c7, rfl⟩ := row_form r7.1; obtain ⟨s8, c8, rfl⟩ := row_form r8.1; have hka := Kept.quiet (ow := ow3) (GrowBut.alloc w3 (.cells #[.int .i64 (toldD (some (pS what (List.replicate bt 1))) (-2)).kind, .int .i64 (toldD (some (pS what (List.replicate bt 1))) (-2)).sender, .bool (toldD (some (pS what (List.replicate bt 1))) (-2)).zero, .slice s7 (toldD (some (pS what (List.replicate bt 1))) (-2)).recvs.length c7, .slice s8 (toldD (some (pS what (List.replicate bt 1))) (-2)).spans.length c8] 58) []); have hDl3 := (hDl.kept hk3).kept hka; have hT3 := (hT.kept hk3).kept hka))
                        | fail)
                      have hkA := hk3.trans hka
                      go_meet
                      case rel => exact ⟨bt, _, (owN ow3 w3 (-2)), _, ev, f, by first | rfl | simp, by first | rfl | simp, by first | (simp only [List.length_append, List.length_cons, List.length_nil]; omega) | omega, (hO3.quiet (GrowBut.alloc _ _ _)).more (by omega), hI, hDl3, hT3, hkA.grow hG hlo, fun x hx => by rw [hkA.old (Nat.lt_of_lt_of_le hx hG.size)]; exact hlo x hx⟩
                    · have hqf := hf q hq4
                      by_cases hw : (what : Int) = 3
                      · obtain rfl := h3 hw
                        have hwb : ((what : Int) == 3) = true := by simpa using hw
                        by_cases hq0 : q = 0
                        · have hqw : (Lit.int .i64 ((0 : Nat) : Int)).wf = true := wf_small (by omega) (by omega)
                          subst hq0
                          have hln := pRs_len3 hw
                          have hf0 : f 0 = false := by cases h : f 0; rfl; rw [h] at hqf; simp at hqf
                          have hTk := take_one hO ((0 : Nat) : Int) hm hqw (by omega) (by omega)
                          have hmy : mayF (some (pO what [])) ((0 : Nat) : Int) 3 = 0 := by rw [may3_3' hw]; rfl
                          have htk := (by have := tk_give (ev := ev) hw hmy; rw [perm3_3 hw] at this; exact this : takeO (some (pO what [])) ((0 : Nat) : Int) = none ∧ takeE (some (pO what [])) ((0 : Nat) : Int) ev = ev ++ [6] ∧ takeP (some (pO what [])) ((0 : Nat) : Int) = 1)
                          rw [hmy] at hTk
                          rw [htk.1, htk.2.1, htk.2.2] at hTk
                          clear hmy htk hw
                          go_wp2_with (first
                            | (go_at_call 37; (refine hTk.mono ?_; clear hTk; rintro e w3 ⟨ow3, vd, vf, rfl, hvd, _, hO3, hk3⟩; obtain ⟨v7, v8, rfl, r7, r8⟩ := hvd; obtain ⟨s7, c7, rfl⟩ := row_form r7.1; obtain ⟨s8, c8, rfl⟩ := row_form r8.1; have hka := Kept.quiet (ow := ow3) (GrowBut.alloc w3 (.cells #[.int .i64 (toldD (some (pO what [])) 0).kind, .int .i64 (toldD (some (pO what [])) 0).sender, .bool (toldD (some (pO what [])) 0).zero, .slice s7 (toldD (some (pO what [])) 0).recvs.length c7, .slice s8 (toldD (some (pO what [])) 0).spans.length c8] 58) []); have hDl3 := (hDl.kept hk3).kept hka; have hT3 := (hT.kept hk3).kept hka; obtain ⟨hDo, d7, d8, e0, e1, e2, e3, e4, p7, p8⟩ := hDl3; obtain ⟨g7, h7, rfl⟩ := row_form p7.1; rw [hln] at e3; clear hln; have hc0 := hT3.c 0 (by omega); rw [hf0] at hc0))
                            | fail)
                          have hkA := hk3.trans hka
                          have hDl3 : DealAt _ (owN ow3 w3 (-2)) D (pD what) := ⟨hDo, _, _, e0, e1, e2, by rw [pRs_len3 (by simpa using hwb)]; exact e3, e4, p7, p8⟩
                          go_meet
                          case rel => exact ⟨bt, _, (owN ow3 w3 (-2)), _, (ev ++ [6]), f, by first | rfl | simp, by first | rfl | simp, by first | (simp only [List.length_append, List.length_cons, List.length_nil]; omega) | omega, (hO3.quiet (GrowBut.alloc _ _ _)).more (by omega), p_give hbt hf hp, hDl3, hT3, hkA.grow hG hlo, fun x hx => by rw [hkA.old (Nat.lt_of_lt_of_le hx hG.size)]; exact hlo x hx⟩
                        · have hqw : (Lit.int .i64 (q : Int)).wf = true := wf_small (by omega) (by omega)
                          have hln := pRs_len3 hw
                          have hq1 : ¬ (q : Int) < 1 := by omega
                          have hTk := take_one hO (q : Int) hm hqw (by omega) (by omega)
                          have hmy : mayF (some (pO what [])) (q : Int) 3 = -6 := by rw [may3_3' hw, if_neg hq0]
                          have htk := tk_no (ev := ev) (o := some (pO what [])) (who := (q : Int)) (by rw [hmy]; decide)
                          rw [hmy] at hTk
                          rw [htk.1, htk.2.1, htk.2.2] at hTk
                          clear hmy htk hw
                          go_wp2_with (first
                            | (go_at_call 37; (refine hTk.mono ?_; clear hTk; rintro e w3 ⟨ow3, vd, vf, rfl, hvd, _, hO3, hk3⟩; obtain ⟨v7, v8, rfl, r7, r8⟩ := hvd; obtain ⟨s7, c7, rfl⟩ := row_form r7.1; obtain ⟨s8, c8, rfl⟩ := row_form r8.1; have hka := Kept.quiet (ow := ow3) (GrowBut.alloc w3 (.cells #[.int .i64 (toldD (some (pO what [])) (-6)).kind, .int .i64 (toldD (some (pO what [])) (-6)).sender, .bool (toldD (some (pO what [])) (-6)).zero, .slice s7 (toldD (some (pO what [])) (-6)).recvs.length c7, .slice s8 (toldD (some (pO what [])) (-6)).spans.length c8] 58) []); have hDl3 := (hDl.kept hk3).kept hka; have hT3 := (hT.kept hk3).kept hka; obtain ⟨hDo, d7, d8, e0, e1, e2, e3, e4, p7, p8⟩ := hDl3; obtain ⟨g7, h7, rfl⟩ := row_form p7.1; rw [hln] at e3; clear hln))
                            | fail)
                          have hkA := hk3.trans hka
                          have hDl3 : DealAt _ (owN ow3 w3 (-2)) D (pD what) := ⟨hDo, _, _, e0, e1, e2, by rw [pRs_len3 (by simpa using hwb)]; exact e3, e4, p7, p8⟩
                          go_meet
                          case rel => exact ⟨bt, _, (owN ow3 w3 (-2)), _, ev, f, by first | rfl | simp, by first | rfl | simp, by first | (simp only [List.length_append, List.length_cons, List.length_nil]; omega) | omega, (hO3.quiet (GrowBut.alloc _ _ _)).more (by omega), hI, hDl3, hT3, hkA.grow hG hlo, fun x hx => by rw [hkA.old (Nat.lt_of_lt_of_le hx hG.size)]; exact hlo x hx⟩
                      · have hwb : ((what : Int) == 3) = false := by simpa using hw
                        have hmm := may3_ne hw hq4 hqf
                        have hln := pRs_len hw
                        have hq4' : (q : Int) < 4 := by omega
                        have hwq := IntWalk.i64_in ((q : Int) + 1) (by omega)
                        cases hfq : f q with
                        | true =>
                          have hqw : (Lit.int .i64 (q : Int)).wf = true := wf_small (by omega) (by omega)
                          rw [if_pos hfq] at hmm
                          have hTk := take_one hO (q : Int) hm hqw (by omega) (by omega)
                          have hmy := hmm
                          have htk := tk_no (ev := ev) (o := some (pO what ts)) (who := (q : Int)) (by rw [hmm]; decide)
                          rw [hmy] at hTk
                          rw [htk.1, htk.2.1, htk.2.2] at hTk
                          clear hmy htk hmm hqf
                          go_wp2_with (first
                            | (go_at_call 37; (refine hTk.mono ?_; clear hTk; rintro e w3 ⟨ow3, vd, vf, rfl, hvd, _, hO3, hk3⟩; obtain ⟨v7, v8, rfl, r7, r8⟩ := hvd; obtain ⟨s7, c7, rfl⟩ := row_form r7.1; obtain ⟨s8, c8, rfl⟩ := row_form r8.1; have hka := Kept.quiet (ow := ow3) (GrowBut.alloc w3 (.cells #[.int .i64 (toldD (some (pO what ts)) (-6)).kind, .int .i64 (toldD (some (pO what ts)) (-6)).sender, .bool (toldD (some (pO what ts)) (-6)).zero, .slice s7 (toldD (some (pO what ts)) (-6)).recvs.length c7, .slice s8 (toldD (some (pO what ts)) (-6)).spans.length c8] 58) []); have hDl3 := (hDl.kept hk3).kept hka; have hT3 := (hT.kept hk3).kept hka; obtain ⟨hDo, d7, d8, e0, e1, e2, e3, e4, p7, p8⟩ := hDl3; obtain ⟨g7, h7, rfl⟩ := row_form p7.1; rw [hln] at e3; have hcq := hT3.c q hq4; rw [hfq] at hcq))
                            | fail)
                          have hkA := hk3.trans hka
                          have hDl3 : DealAt _ (owN ow3 w3 (-2)) D (pD what) := ⟨hDo, _, _, e0, e1, e2, by rw [hln]; exact e3, e4, p7, p8⟩
                          go_meet
                          case rel => exact ⟨bt, _, (owN ow3 w3 (-2)), _, ev, f, by first | rfl | simp, by first | rfl | simp, by first | (simp only [List.length_append, List.length_cons, List.length_nil]; omega) | omega, (hO3.quiet (GrowBut.alloc _ _ _)).more (by omega), hI, hDl3, hT3, hkA.grow hG hlo, fun x hx => by rw [hkA.old (Nat.lt_of_lt_of_le hx hG.size)]; exact hlo x hx⟩
                        | false =>
                          have hqw : (Lit.int .i64 (q : Int)).wf = true := wf_small (by omega) (by omega)
                          rw [hfq] at hmm
                          simp only [Bool.false_eq_true, if_false] at hmm
                          have hTk := take_one hO (q : Int) hm hqw (by omega) (by omega)
                          have hmy := hmm
                          have htk := (by have := tk_some (ev := ev) hw hmm; rw [perm3_ne hw hq4] at this; exact this : takeO (some (pO what ts)) (q : Int) = some (pO what (ts ++ [(q : Int)])) ∧ takeE (some (pO what ts)) (q : Int) ev = ev ++ [3] ∧ takeP (some (pO what ts)) (q : Int) = (q : Int) + 1)
                          rw [hmy] at hTk
                          rw [htk.1, htk.2.1, htk.2.2] at hTk
                          clear hmy htk hmm hqf
                          go_wp2_with (first
                            | (go_at_call 37; (refine hTk.mono ?_; clear hTk; rintro e w3 ⟨ow3, vd, vf, rfl, hvd, _, hO3, hk3⟩; obtain ⟨v7, v8, rfl, r7, r8⟩ := hvd; obtain ⟨s7, c7, rfl⟩ := row_form r7.1; obtain ⟨s8, c8, rfl⟩ := row_form r8.1; have hka := Kept.quiet (ow := ow3) (GrowBut.alloc w3 (.cells #[.int .i64 (toldD (some (pO what ts)) 0).kind, .int .i64 (toldD (some (pO what ts)) 0).sender, .bool (toldD (some (pO what ts)) 0).zero, .slice s7 (toldD (some (pO what ts)) 0).recvs.length c7, .slice s8 (toldD (some (pO what ts)) 0).spans.length c8] 58) []); have hDl3 := (hDl.kept hk3).kept hka; have hT3 := (hT.kept hk3).kept hka; obtain ⟨hDo, d7, d8, e0, e1, e2, e3, e4, p7, p8⟩ := hDl3; obtain ⟨g7, h7, rfl⟩ := row_form p7.1; rw [hln] at e3; have hcq := hT3.c q hq4; rw [hfq] at hcq; have hfzq := hT3.fz q hq4))
                            | fail)
                          have hkA := hk3.trans hka
                          have hDl3 : DealAt _ (owN ow3 w3 (-2)) D (pD what) := ⟨hDo, _, _, e0, e1, e2, by rw [hln]; exact e3, e4, p7, p8⟩
                          have hgs := GrowBut.setCell (w3.alloc (.cells #[.int .i64 (toldD (some (pO what ts)) 0).kind, .int .i64 (toldD (some (pO what ts)) 0).sender, .bool (toldD (some (pO what ts)) 0).zero, .slice s7 (toldD (some (pO what ts)) 0).recvs.length c7, .slice s8 (toldD (some (pO what ts)) 0).spans.length c8] 58)) ⟨TB, q, none⟩ (.bool true)
                          have hT4 := hT3.set q hq4 true
                          have hDl4 := hDl3.other (ow' := owN ow3 w3 (-2)) hgs (by simpa using fun e => hTB.1 e.symm) (fun x hx => by simp at hx; rw [hx]; exact ⟨fun h => Typed.ne hT3.ty h (by decide) rfl, fun h => Typed.ne hT3.ty h (by decide) rfl⟩) (fun _ _ => rfl)
                          have hO4 := (hO3.quiet (GrowBut.alloc w3 (.cells #[.int .i64 (toldD (some (pO what ts)) 0).kind, .int .i64 (toldD (some (pO what ts)) 0).sender, .bool (toldD (some (pO what ts)) 0).zero, .slice s7 (toldD (some (pO what ts)) 0).recvs.length c7, .slice s8 (toldD (some (pO what ts)) 0).spans.length c8] 58) [])).kept (ow' := owN ow3 w3 (-2)) hgs (fun x hx _ => by simp at hx; rw [hx]; exact hT3.own) (fun _ _ => rfl)
                          have hG4 := (hkA.grow hG hlo).from hgs (fun x hx => .inr (by simp at hx; rw [hx]; exact hTB.2))
                          go_meet
                          case rel => exact ⟨bt, _, (owN ow3 w3 (-2)), _, (ev ++ [3]), (upB f q true), by first | rfl | simp, by first | rfl | simp, by first | (simp only [List.length_append, List.length_cons, List.length_nil]; omega) | omega, hO4.more (by omega), p_take hbt hq4 hw hn hf hs hp hfq, hDl4, hT4, hG4, fun x hx => by rw [hkA.old (Nat.lt_of_lt_of_le hx hG.size)]; exact hlo x hx⟩
              · as_aux_lemma =>
                  · rcases hI.alt with ⟨rfl, rfl, hf, hp⟩ | ⟨rfl, rfl, hf, hp⟩ | ⟨rfl, ts, rfl, hn, hf, hs, h3, hp⟩
                    · have hqw : (Lit.int .i64 (q : Int)).wf = true := wf_small (by omega) (by omega)
                      have hTk := take_one hO (q : Int) hm hqw (by omega) (by omega)
                      have hmy : mayF none (q : Int) 3 = -2 := rfl
                      have htk := tk_no (ev := ev) (o := none) (who := (q : Int)) (by rw [hmy]; decide)
                      rw [hmy] at hTk
                      rw [htk.1, htk.2.1, htk.2.2] at hTk
                      clear hmy htk
                      go_wp2_with (first
                        | (go_at_call 37; (refine hTk.mono ?_; clear hTk; rintro e w3 ⟨ow3, vd, vf, rfl, hvd, _, hO3, hk3⟩; obtain ⟨v7, v8, rfl, r7, r8⟩ := hvd; obtain ⟨s7, c7, rfl⟩ := row_form r7.1; obtain ⟨s8, c8, rfl⟩ := row_form r8.1; have hka := Kept.quiet (ow := ow3) (GrowBut.alloc w3 (.cells #[.int .i64 (toldD (none) (-2)).kind, .int .i64 (toldD (none) (-2)).sender, .bool (toldD (none) (-2)).zero, .slice s7 (toldD (none) (-2)).recvs.length c7, .slice s8 (toldD (none) (-2)).spans.length c8] 58) []); have hDl3 := (hDl.kept hk3).kept hka; have hT3 := (hT.kept hk3).kept hka))
                        | fail)
                      have hkA := hk3.trans hka
                      go_meet
                      case rel => exact ⟨bt, _, (owN ow3 w3 (-2)), _, ev, f, by first | rfl | simp, by first | rfl | simp, by first | (simp only [List.length_append, List.length_cons, List.length_nil]; omega) | omega, (hO3.quiet (GrowBut.alloc _ _ _)).more (by omega), hI, hDl3, hT3, hkA.grow hG hlo, fun x hx => by rw [hkA.old (Nat.lt_of_lt_of_le hx hG.size)]; exact hlo x hx⟩
                    · have hqw : (Lit.int .i64 (q : Int)).wf = true := wf_small (by omega) (by omega)
                      have hTk := take_one hO (q : Int) hm hqw (by omega) (by omega)
                      have hmy : mayF (some (pS what (List.replicate bt 1))) (q : Int) 3 = -2 := rfl
                      have htk := tk_no (ev := ev) (o := some (pS what (List.replicate bt 1))) (who := (q : Int)) (by rw [hmy]; decide)
                      rw [hmy] at hTk
                      rw [htk.1, htk.2.1, htk.2.2] at hTk
                      clear hmy htk
                      go_wp2_with (first
                        | (go_at_call 37; (refine hTk.mono ?_; clear hTk; rintro e w3 ⟨ow3, vd, vf, rfl, hvd, _, hO3, hk3⟩; obtain ⟨v7, v8, rfl, r7, r8⟩ := hvd; obtain ⟨s7, c7, rfl⟩ := row_form r7.1; obtain ⟨s8, c8, rfl⟩ := row_form r8.1; have hka := Kept.quiet (ow := ow3) (GrowBut.alloc w3 (.cells #[.int .i64 (toldD (some (pS what (List.replicate bt 1))) (-2)).kind, .int .i64 (toldD (some (pS what (List.replicate bt 1))) (-2)).sender, .bool (toldD (some (pS what (List.replicate bt 1))) (-2)).zero, .slice s7 (toldD (some (pS what (List.replicate bt 1))) (-2)).recvs.length c7, .slice s8 (toldD (some (pS what (List.replicate bt 1))) (-2)).spans.length c8] 58) []); have hDl3 := (hDl.kept hk3).kept hka; have hT3 := (hT.kept hk3).kept hka))
                        | fail)
                      have hkA := hk3.trans hka
                      go_meet
                      case rel => exact ⟨bt, _, (owN ow3 w3 (-2)), _, ev, f, by first | rfl | simp, by first | rfl | simp, by first | (simp only [List.length_append, List.length_cons, List.length_nil]; omega) | omega, (hO3.quiet (GrowBut.alloc _ _ _)).more (by omega), hI, hDl3, hT3, hkA.grow hG hlo, fun x hx => by rw [hkA.old (Nat.lt_of_lt_of_le hx hG.size)]; exact hlo x hx⟩
                    · have hqf := hf q hq4
                      by_cases hw : (what : Int) = 3
                      · obtain rfl := h3 hw
                        have hwb : ((what : Int) == 3) = true := by simpa using hw
                        by_cases hq0 : q = 0
                        · have hqw : (Lit.int .i64 ((0 : Nat) : Int)).wf = true := wf_small (by omega) (by omega)
                          subst hq0
                          have hln := pRs_len3 hw
                          have hf0 : f 0 = false := by cases h : f 0; rfl; rw [h] at hqf; simp at hqf
                          have hTk := take_one hO ((0 : Nat) : Int) hm hqw (by omega) (by omega)
                          have hmy : mayF (some (pO what [])) ((0 : Nat) : Int) 3 = 0 := by rw [may3_3' hw]; rfl
                          have htk := (by have := tk_give (ev := ev) hw hmy; rw [perm3_3 hw] at this; exact this : takeO (some (pO what [])) ((0 : Nat) : Int) = none ∧ takeE (some (pO what [])) ((0 : Nat) : Int) ev = ev ++ [6] ∧ takeP (some (pO what [])) ((0 : Nat) : Int) = 1)
                          rw [hmy] at hTk
                          rw [htk.1, htk.2.1, htk.2.2] at hTk
                          clear hmy htk hw
                          go_wp2_with (first
                            | (go_at_call 37; (refine hTk.mono ?_; clear hTk; rintro e w3 ⟨ow3, vd, vf, rfl, hvd, _, hO3, hk3⟩; obtain ⟨v7, v8, rfl, r7, r8⟩ := hvd; obtain ⟨s7, c7, rfl⟩ := row_form r7.1; obtain ⟨s8, c8, rfl⟩ := row_form r8.1; have hka := Kept.quiet (ow := ow3) (GrowBut.alloc w3 (.cells #[.int .i64 (toldD (some (pO what [])) 0).kind, .int .i64 (toldD (some (pO what [])) 0).sender, .bool (toldD (some (pO what [])) 0).zero, .slice s7 (toldD (some (pO what [])) 0).recvs.length c7, .slice s8 (toldD (some (pO what [])) 0).spans.length c8] 58) []); have hDl3 := (hDl.kept hk3).kept hka; have hT3 := (hT.kept hk3).kept hka; obtain ⟨hDo, d7, d8, e0, e1, e2, e3, e4, p7, p8⟩ := hDl3; obtain ⟨g7, h7, rfl⟩ := row_form p7.1; rw [hln] at e3; clear hln; have hc0 := hT3.c 0 (by omega); rw [hf0] at hc0))
                            | fail)
                          have hkA := hk3.trans hka
                          have hDl3 : DealAt _ (owN ow3 w3 (-2)) D (pD what) := ⟨hDo, _, _, e0, e1, e2, by rw [pRs_len3 (by simpa using hwb)]; exact e3, e4, p7, p8⟩
                          go_meet
                          case rel => exact ⟨bt, _, (owN ow3 w3 (-2)), _, (ev ++ [6]), f, by first | rfl | simp, by first | rfl | simp, by first | (simp only [List.length_append, List.length_cons, List.length_nil]; omega) | omega, (hO3.quiet (GrowBut.alloc _ _ _)).more (by omega), p_give hbt hf hp, hDl3, hT3, hkA.grow hG hlo, fun x hx => by rw [hkA.old (Nat.lt_of_lt_of_le hx hG.size)]; exact hlo x hx⟩
                        · have hqw : (Lit.int .i64 (q : Int)).wf = true := wf_small (by omega) (by omega)
                          have hln := pRs_len3 hw
                          have hq1 : ¬ (q : Int) < 1 := by omega
                          have hTk := take_one hO (q : Int) hm hqw (by omega) (by omega)
                          have hmy : mayF (some (pO what [])) (q : Int) 3 = -6 := by rw [may3_3' hw, if_neg hq0]
                          have htk := tk_no (ev := ev) (o := some (pO what [])) (who := (q : Int)) (by rw [hmy]; decide)
                          rw [hmy] at hTk
                          rw [htk.1, htk.2.1, htk.2.2] at hTk
                          clear hmy htk hw
                          go_wp2_with (first
                            | (go_at_call 37; (refine hTk.mono ?_; clear hTk; rintro e w3 ⟨ow3, vd, vf, rfl, hvd, _, hO3, hk3⟩; obtain ⟨v7, v8, rfl, r7, r8⟩ := hvd; obtain ⟨s7, c7, rfl⟩ := row_form r7.1; obtain ⟨s8, c8, rfl⟩ := row_form r8.1; have hka := Kept.quiet (ow := ow3) (GrowBut.alloc w3 (.cells #[.int .i64 (toldD (some (pO what [])) (-6)).kind, .int .i64 (toldD (some (pO what [])) (-6)).sender, .bool (toldD (some (pO what [])) (-6)).zero, .slice s7 (toldD (some (pO what [])) (-6)).recvs.length c7, .slice s8 (toldD (some (pO what [])) (-6)).spans.length c8] 58) []); have hDl3 := (hDl.kept hk3).kept hka; have hT3 := (hT.kept hk3).kept hka; obtain ⟨hDo, d7, d8, e0, e1, e2, e3, e4, p7, p8⟩ := hDl3; obtain ⟨g7, h7, rfl⟩ := row_form p7.1; rw [hln] at e3; clear hln))
                            | fail)
                          have hkA := hk3.trans hka
                          have hDl3 : DealAt _ (owN ow3 w3 (-2)) D (pD what) := ⟨hDo, _, _, e0, e1, e2, by rw [pRs_len3 (by simpa using hwb)]; exact e3, e4, p7, p8⟩
                          go_meet
                          case rel => exact ⟨bt, _, (owN ow3 w3 (-2)), _, ev, f, by first | rfl | simp, by first | rfl | simp, by first | (simp only [List.length_append, List.length_cons, List.length_nil]; omega) | omega, (hO3.quiet (GrowBut.alloc _ _ _)).more (by omega), hI, hDl3, hT3, hkA.grow hG hlo, fun x hx => by rw [hkA.old (Nat.lt_of_lt_of_le hx hG.size)]; exact hlo x hx⟩
                      · have hwb : ((what : Int) == 3) = false := by simpa using hw
                        have hmm := may3_ne hw hq4 hqf
                        have hln := pRs_len hw
                        have hq4' : (q : Int) < 4 := by omega
                        have hwq := IntWalk.i64_in ((q : Int) + 1) (by omega)
                        cases hfq : f q with
                        | true =>
                          have hqw : (Lit.int .i64 (q : Int)).wf = true := wf_small (by omega) (by omega)
                          rw [if_pos hfq] at hmm
                          have hTk := take_one hO (q : Int) hm hqw (by omega) (by omega)
                          have hmy := hmm
                          have htk := tk_no (ev := ev) (o := some (pO what ts)) (who := (q : Int)) (by rw [hmm]; decide)
                          rw [hmy] at hTk
                          rw [htk.1, htk.2.1, htk.2.2] at hTk
                          clear hmy htk hmm hqf
                          go_wp2_with (first
                            | (go_at_call 37; (refine hTk.mono ?_; clear hTk; rintro e w3 ⟨ow3, vd, vf, rfl, hvd, _, hO3, hk3⟩; obtain ⟨v7, v8, rfl, r7, r8⟩ := hvd; obtain ⟨s7, c7, rfl⟩ := row_form r7.1; obtain ⟨s8, c8, rfl⟩ := row_form r8.1; have hka := Kept.quiet (ow := ow3) (GrowBut.alloc w3 (.cells #[.int .i64 (toldD (some (pO what ts)) (-6)).kind, .int .i64 (toldD (some (pO what ts)) (-6)).sender, .bool (toldD (some (pO what ts)) (-6)).zero, .slice s7 (toldD (some (pO what ts)) (-6)).recvs.length c7, .slice s8 (toldD (some (pO what ts)) (-6)).spans.length c8] 58) []); have hDl3 := (hDl.kept hk3).kept hka; have hT3 := (hT.kept hk3).kept hka; obtain ⟨hDo, d7, d8, e0, e1, e2, e3, e4, p7, p8⟩ := hDl3; obtain ⟨g7, h7, rfl⟩ := row_form p7.1; rw [hln] at e3; have hcq := hT3.c q hq4; rw [hfq] at hcq))
                            | fail)
                          have hkA := hk3.trans hka
                          have hDl3 : DealAt _ (owN ow3 w3 (-2)) D (pD what) := ⟨hDo, _, _, e0, e1, e2, by rw [hln]; exact e3, e4, p7, p8⟩
                          go_meet
                          case rel => exact ⟨bt, _, (owN ow3 w3 (-2)), _, ev, f, by first | rfl | simp, by first | rfl | simp, by first | (simp only [List.length_append, List.length_cons, List.length_nil]; omega) | omega, (hO3.quiet (GrowBut.alloc _ _ _)).more (by omega), hI, hDl3, hT3, hkA.grow hG hlo, fun x hx => by rw [hkA.old (Nat.lt_of_lt_of_le hx hG.size)]; exact hlo x hx⟩
                        | false =>
                          have hqw : (Lit.int .i64 (q : Int)).wf = true := wf_small (by omega) (by omega)
                          rw [hfq] at hmm
                          simp only [Bool.false_eq_true, if_false] at hmm
                          have hTk := take_one hO (q : Int) hm hqw (by omega) (by omega)
                          have hmy := hmm
                          have htk := (by have := tk_some (ev := ev) hw hmm; rw [perm3_ne hw hq4] at this; exact this : takeO (some (pO what ts)) (q : Int) = some (pO what (ts ++ [(q : Int)])) ∧ takeE (some (pO what ts)) (q : Int) ev = ev ++ [3] ∧ takeP (some (pO what ts)) (q : Int) = (q : Int) + 1)
                          rw [hmy] at hTk
                          rw [htk.1, htk.2.1, htk.2.2] at hTk
                          clear hmy htk hmm hqf
                          go_wp2_with (first
                            | (go_at_call 37; (refine hTk.mono ?_; clear hTk; rintro e w3 ⟨ow3, vd, vf, rfl, hvd, _, hO3, hk3⟩; obtain ⟨v7, v8, rfl, r7, r8⟩ := hvd; obtain ⟨s7, c7, rfl⟩ := row_form r7.1; obtain ⟨s8, c8, rfl⟩ := row_form r8.1; have hka := Kept.quiet (ow := ow3) (GrowBut.alloc w3 (.cells #[.int .i64 (toldD (some (pO what ts)) 0).kind, .int .i64 (toldD (some (pO what ts)) 0).sender, .bool (toldD (some (pO what ts)) 0).zero, .slice s7 (toldD (some (pO what ts)) 0).recvs.length c7, .slice s8 (toldD (some (pO what ts)) 0).spans.length c8] 58) []); have hDl3 := (hDl.kept hk3).kept hka; have hT3 := (hT.kept hk3).kept hka; obtain ⟨hDo, d7, d8, e0, e1, e2, e3, e4, p7, p8⟩ := hDl3; obtain ⟨g7, h7, rfl⟩ := row_form p7.1; rw [hln] at e3; have hcq := hT3.c q hq4; rw [hfq] at hcq; have hfzq := hT3.fz q hq4))
                            | fail)
                          have hkA := hk3.trans hka
                          have hDl3 : DealAt _ (owN ow3 w3 (-2)) D (pD what) := ⟨hDo, _, _, e0, e1, e2, by rw [hln]; exact e3, e4, p7, p8⟩
                          have hgs := GrowBut.setCell (w3.alloc (.cells #[.int .i64 (toldD (some (pO what ts)) 0).kind, .int .i64 (toldD (some (pO what ts)) 0).sender, .bool (toldD (some (pO what ts)) 0).zero, .slice s7 (toldD (some (pO what ts)) 0).recvs.length c7, .slice s8 (toldD (some (pO what ts)) 0).spans.length c8] 58)) ⟨TB, q, none⟩ (.bool true)
                          have hT4 := hT3.set q hq4 true
                          have hDl4 := hDl3.other (ow' := owN ow3 w3 (-2)) hgs (by simpa using fun e => hTB.1 e.symm) (fun x hx => by simp at hx; rw [hx]; exact ⟨fun h => Typed.ne hT3.ty h (by decide) rfl, fun h => Typed.ne hT3.ty h (by decide) rfl⟩) (fun _ _ => rfl)
                          have hO4 := (hO3.quiet (GrowBut.alloc w3 (.cells #[.int .i64 (toldD (some (pO what ts)) 0).kind, .int .i64 (toldD (some (pO what ts)) 0).sender, .bool (toldD (some (pO what ts)) 0).zero, .slice s7 (toldD (some (pO what ts)) 0).recvs.length c7, .slice s8 (toldD (some (pO what ts)) 0).spans.length c8] 58) [])).kept (ow' := owN ow3 w3 (-2)) hgs (fun x hx _ => by simp at hx; rw [hx]; exact hT3.own) (fun _ _ => rfl)
                          have hG4 := (hkA.grow hG hlo).from hgs (fun x hx => .inr (by simp at hx; rw [hx]; exact hTB.2))
                          go_meet
                          case rel => exact ⟨bt, _, (owN ow3 w3 (-2)), _, (ev ++ [3]), (upB f q true), by first | rfl | simp, by first | rfl | simp, by first | (simp only [List.length_append, List.length_cons, List.length_nil]; omega) | omega, hO4.more (by omega), p_take hbt hq4 hw hn hf hs hp hfq, hDl4, hT4, hG4, fun x hx => by rw [hkA.old (Nat.lt_of_lt_of_le hx hG.size)]; exact hlo x hx⟩
              · as_aux_lemma =>
                  · rcases hI.alt with ⟨rfl, rfl, hf, hp⟩ | ⟨rfl, rfl, hf, hp⟩ | ⟨rfl, ts, rfl, hn, hf, hs, h3, hp⟩
                    · have hqw : (Lit.int .i64 (q : Int)).wf = true := wf_small (by omega) (by omega)
                      have hTk := leave_one hO (q : Int) hm hqw (by omega) (by omega)
                      have hmy : mayF none (q : Int) 4 = -2 := rfl
                      have htk := lv_no (ev := ev) (o := none) (who := (q : Int)) (by rw [hmy]; decide)
                      rw [hmy] at hTk
                      rw [htk.1, htk.2] at hTk
                      clear hmy htk
                      go_wp2_with (first
                        | (go_at_call 38; (refine hTk.mono ?_; clear hTk; rintro e w3 ⟨ow3, vd, vf, rfl, hvd, _, hO3, hk3⟩; obtain ⟨v7, v8, rfl, r7, r8⟩ := hvd; obtain ⟨s7, c7, rfl⟩ := row_form r7.1; obtain ⟨s8, c8, rfl⟩ := row_form r8.1; have hka := Kept.quiet (ow := ow3) (GrowBut.alloc w3 (.cells #[.int .i64 (toldD (none) (-2)).kind, .int .i64 (toldD (none) (-2)).sender, .bool (toldD (none) (-2)).zero, .slice s7 (toldD (none) (-2)).recvs.length c7, .slice s8 (toldD (none) (-2)).spans.length c8] 58) []); have hDl3 := (hDl.kept hk3).kept hka; have hT3 := (hT.kept hk3).kept hka))
                        | fail)
                      have hkA := hk3.trans hka
                      go_meet
                      case rel => exact ⟨bt, _, (owN ow3 w3 (-2)), _, ev, f, by first | rfl | simp, by first | rfl | simp, by first | (simp only [List.length_append, List.length_cons, List.length_nil]; omega) | omega, (hO3.quiet (GrowBut.alloc _ _ _)).more (by omega), hI, hDl3, hT3, hkA.grow hG hlo, fun x hx => by rw [hkA.old (Nat.lt_of_lt_of_le hx hG.size)]; exact hlo x hx⟩
                    · have hqw : (Lit.int .i64 (q : Int)).wf = true := wf_small (by omega) (by omega)
                      have hTk := leave_one hO (q : Int) hm hqw (by omega) (by omega)
                      have hmy : mayF (some (pS what (List.replicate bt 1))) (q : Int) 4 = -2 := rfl
                      have htk := lv_no (ev := ev) (o := some (pS what (List.replicate bt 1))) (who := (q : Int)) (by rw [hmy]; decide)
                      rw [hmy] at hTk
                      rw [htk.1, htk.2] at hTk
                      clear hmy htk
                      go_wp2_with (first
                        | (go_at_call 38; (refine hTk.mono ?_; clear hTk; rintro e w3 ⟨ow3, vd, vf, rfl, hvd, _, hO3, hk3⟩; obtain ⟨v7, v8, rfl, r7, r8⟩ := hvd; obtain ⟨s7, c7, rfl⟩ := row_form r7.1; obtain ⟨s8, c8, rfl⟩ := row_form r8.1; have hka := Kept.quiet (ow := ow3) (GrowBut.alloc w3 (.cells #[.int .i64 (toldD (some (pS what (List.replicate bt 1))) (-2)).kind, .int .i64 (toldD (some (pS what (List.replicate bt 1))) (-2)).sender, .bool (toldD (some (pS what (List.replicate bt 1))) (-2)).zero, .slice s7 (toldD (some (pS what (List.replicate bt 1))) (-2)).recvs.length c7, .slice s8 (toldD (some (pS what (List.replicate bt 1))) (-2)).spans.length c8] 58) []); have hDl3 := (hDl.kept hk3).kept hka; have hT3 := (hT.kept hk3).kept hka))
                        | fail)
                      have hkA := hk3.trans hka
                      go_meet
                      case rel => exact ⟨bt, _, (owN ow3 w3 (-2)), _, ev, f, by first | rfl | simp, by first | rfl | simp, by first | (simp only [List.length_append, List.length_cons, List.length_nil]; omega) | omega, (hO3.quiet (GrowBut.alloc _ _ _)).more (by omega), hI, hDl3, hT3, hkA.grow hG hlo, fun x hx => by rw [hkA.old (Nat.lt_of_lt_of_le hx hG.size)]; exact hlo x hx⟩
                    · have hqf := hf q hq4
                      cases hfq : f q with
                      | true =>
                        have hqw : (Lit.int .i64 (q : Int)).wf = true := wf_small (by omega) (by omega)
                        have hin := hqf.1 hfq
                        have hTk := leave_one hO (q : Int) hm hqw (by omega) (by omega)
                        have hmy : mayF (some (pO what ts)) (q : Int) 4 = 0 := by rw [may4_2, if_pos hin]
                        have htk := lv_yes (ev := ev) hmy
                        rw [hmy] at hTk
                        rw [htk.1, htk.2] at hTk
                        clear hmy htk hqf
                        go_wp2_with (first
                          | (go_at_call 38; (refine hTk.mono ?_; clear hTk; rintro e w3 ⟨ow3, vd, vf, rfl, hvd, _, hO3, hk3⟩; obtain ⟨v7, v8, rfl, r7, r8⟩ := hvd; obtain ⟨s7, c7, rfl⟩ := row_form r7.1; obtain ⟨s8, c8, rfl⟩ := row_form r8.1; have hka := Kept.quiet (ow := ow3) (GrowBut.alloc w3 (.cells #[.int .i64 (toldD (some (pO what ts)) 0).kind, .int .i64 (toldD (some (pO what ts)) 0).sender, .bool (toldD (some (pO what ts)) 0).zero, .slice s7 (toldD (some (pO what ts)) 0).recvs.length c7, .slice s8 (toldD (some (pO what ts)) 0).spans.length c8] 58) []); have hDl3 := (hDl.kept hk3).kept hka; have hT3 := (hT.kept hk3).kept hka; have hcq := hT3.c q hq4; rw [hfq] at hcq; have hfzq := hT3.fz q hq4))
                          | fail)
                        have hkA := hk3.trans hka
                        have hgs := GrowBut.setCell (w3.alloc (.cells #[.int .i64 (toldD (some (pO what ts)) 0).kind, .int .i64 (toldD (some (pO what ts)) 0).sender, .bool (toldD (some (pO what ts)) 0).zero, .slice s7 (toldD (some (pO what ts)) 0).recvs.length c7, .slice s8 (toldD (some (pO what ts)) 0).spans.length c8] 58)) ⟨TB, q, none⟩ (.bool false)
                        have hT4 := hT3.set q hq4 false
                        have hDl4 := hDl3.other (ow' := owN ow3 w3 (-2)) hgs (by simpa using fun e => hTB.1 e.symm) (fun x hx => by simp at hx; rw [hx]; exact ⟨fun h => Typed.ne hT3.ty h (by decide) rfl, fun h => Typed.ne hT3.ty h (by decide) rfl⟩) (fun _ _ => rfl)
                        have hO4 := (hO3.quiet (GrowBut.alloc w3 (.cells #[.int .i64 (toldD (some (pO what ts)) 0).kind, .int .i64 (toldD (some (pO what ts)) 0).sender, .bool (toldD (some (pO what ts)) 0).zero, .slice s7 (toldD (some (pO what ts)) 0).recvs.length c7, .slice s8 (toldD (some (pO what ts)) 0).spans.length c8] 58) [])).kept (ow' := owN ow3 w3 (-2)) hgs (fun x hx _ => by simp at hx; rw [hx]; exact hT3.own) (fun _ _ => rfl)
                        have hG4 := (hkA.grow hG hlo).from hgs (fun x hx => .inr (by simp at hx; rw [hx]; exact hTB.2))
                        go_meet
                        case rel => exact ⟨bt, _, (owN ow3 w3 (-2)), _, (ev ++ [4]), (upB f q false), by first | rfl | simp, by first | rfl | simp, by first | (simp only [List.length_append, List.length_cons, List.length_nil]; omega) | omega, hO4.more (by omega), p_leave hbt hq4 hn hf hs h3 hp hfq, hDl4, hT4, hG4, fun x hx => by rw [hkA.old (Nat.lt_of_lt_of_le hx hG.size)]; exact hlo x hx⟩
                      | false =>
                        have hqw : (Lit.int .i64 (q : Int)).wf = true := wf_small (by omega) (by omega)
                        have hin : (q : Int) ∉ ts := fun h => by rw [hqf.2 h] at hfq; cases hfq
                        have hTk := leave_one hO (q : Int) hm hqw (by omega) (by omega)
                        have hmy : mayF (some (pO what ts)) (q : Int) 4 = -6 := by rw [may4_2, if_neg hin]
                        have htk := lv_no (ev := ev) (o := some (pO what ts)) (who := (q : Int)) (by rw [hmy]; decide)
                        rw [hmy] at hTk
                        rw [htk.1, htk.2] at hTk
                        clear hmy htk hqf
                        go_wp2_with (first
                          | (go_at_call 38; (refine hTk.mono ?_; clear hTk; rintro e w3 ⟨ow3, vd, vf, rfl, hvd, _, hO3, hk3⟩; obtain ⟨v7, v8, rfl, r7, r8⟩ := hvd; obtain ⟨s7, c7, rfl⟩ := row_form r7.1; obtain ⟨s8, c8, rfl⟩ := row_form r8.1; have hka := Kept.quiet (ow := ow3) (GrowBut.alloc w3 (.cells #[.int .i64 (toldD (some (pO what ts)) (-6)).kind, .int .i64 (toldD (some (pO what ts)) (-6)).sender, .bool (toldD (some (pO what ts)) (-6)).zero, .slice s7 (toldD (some (pO what ts)) (-6)).recvs.length c7, .slice s8 (toldD (some (pO what ts)) (-6)).spans.length c8] 58) []); have hDl3 := (hDl.kept hk3).kept hka; have hT3 := (hT.kept hk3).kept hka; have hcq := hT3.c q hq4; rw [hfq] at hcq))
                          | fail)
                        have hkA := hk3.trans hka
                        go_meet
                        case rel => exact ⟨bt, _, (owN ow3 w3 (-2)), _, ev, f, by first | rfl | simp, by first | rfl | simp, by first | (simp only [List.length_append, List.length_cons, List.length_nil]; omega) | omega, (hO3.quiet (GrowBut.alloc _ _ _)).more (by omega), hI, hDl3, hT3, hkA.grow hG hlo, fun x hx => by rw [hkA.old (Nat.lt_of_lt_of_le hx hG.size)]; exact hlo x hx⟩
              · as_aux_lemma =>
                  · rcases hI.alt with ⟨rfl, rfl, hf, hp⟩ | ⟨rfl, rfl, hf, hp⟩ | ⟨rfl, ts, rfl, hn, hf, hs, h3, hp⟩
                    · have hqw : (Lit.int .i64 (5 : Int)).wf = true := by decide
                      have hTk := recl_one hO 5 hm hqw (by omega) (by omega)
                      have hmy : mayF none 5 5 = -2 := rfl
                      have htk := rc_no (ev := ev) (o := none) (who := 5) (by rw [hmy]; decide)
                      rw [hmy] at hTk
                      rw [htk.1, htk.2] at hTk
                      clear hmy htk
                      go_wp2_with (first
                        | (go_at_call 39; (refine hTk.mono ?_; clear hTk; rintro e w3 ⟨ow3, vd, vf, rfl, hvd, _, hO3, hk3⟩; obtain ⟨v7, v8, rfl, r7, r8⟩ := hvd; obtain ⟨s7, c7, rfl⟩ := row_form r7.1; obtain ⟨s8, c8, rfl⟩ := row_form r8.1; have hka := Kept.quiet (ow := ow3) (GrowBut.alloc w3 (.cells #[.int .i64 (toldD (none) (-2)).kind, .int .i64 (toldD (none) (-2)).sender, .bool (toldD (none) (-2)).zero, .slice s7 (toldD (none) (-2)).recvs.length c7, .slice s8 (toldD (none) (-2)).spans.length c8] 58) []); have hDl3 := (hDl.kept hk3).kept hka; have hT3 := (hT.kept hk3).kept hka))
                        | fail)
                      have hkA := hk3.trans hka
                      go_meet
                      case rel => exact ⟨bt, _, (owN ow3 w3 (-2)), _, ev, f, by first | rfl | simp, by first | rfl | simp, by first | (simp only [List.length_append, List.length_cons, List.length_nil]; omega) | omega, (hO3.quiet (GrowBut.alloc _ _ _)).more (by omega), hI, hDl3, hT3, hkA.grow hG hlo, fun x hx => by rw [hkA.old (Nat.lt_of_lt_of_le hx hG.size)]; exact hlo x hx⟩
                    · have hqw : (Lit.int .i64 (5 : Int)).wf = true := by decide
                      have hTk := recl_one hO 5 hm hqw (by omega) (by omega)
                      have hmy : mayF (some (pS what (List.replicate bt 1))) 5 5 = -2 := rfl
                      have htk := rc_no (ev := ev) (o := some (pS what (List.replicate bt 1))) (who := 5) (by rw [hmy]; decide)
                      rw [hmy] at hTk
                      rw [htk.1, htk.2] at hTk
                      clear hmy htk
                      go_wp2_with (first
                        | (go_at_call 39; (refine hTk.mono ?_; clear hTk; rintro e w3 ⟨ow3, vd, vf, rfl, hvd, _, hO3, hk3⟩; obtain ⟨v7, v8, rfl, r7, r8⟩ := hvd; obtain ⟨s7, c7, rfl⟩ := row_form r7.1; obtain ⟨s8, c8, rfl⟩ := row_form r8.1; have hka := Kept.quiet (ow := ow3) (GrowBut.alloc w3 (.cells #[.int .i64 (toldD (some (pS what (List.replicate bt 1))) (-2)).kind, .int .i64 (toldD (some (pS what (List.replicate bt 1))) (-2)).sender, .bool (toldD (some (pS what (List.replicate bt 1))) (-2)).zero, .slice s7 (toldD (some (pS what (List.replicate bt 1))) (-2)).recvs.length c7, .slice s8 (toldD (some (pS what (List.replicate bt 1))) (-2)).spans.length c8] 58) []); have hDl3 := (hDl.kept hk3).kept hka; have hT3 := (hT.kept hk3).kept hka))
                        | fail)
                      have hkA := hk3.trans hka
                      go_meet
                      case rel => exact ⟨bt, _, (owN ow3 w3 (-2)), _, ev, f, by first | rfl | simp, by first | rfl | simp, by first | (simp only [List.length_append, List.length_cons, List.length_nil]; omega) | omega, (hO3.quiet (GrowBut.alloc _ _ _)).more (by omega), hI, hDl3, hT3, hkA.grow hG hlo, fun x hx => by rw [hkA.old (Nat.lt_of_lt_of_le hx hG.size)]; exact hlo x hx⟩
                    · have hqf := hf q hq4
                      have hct := cnt_takers hn hf hs
                      by_cases hts : ts = []
                      · have hqw : (Lit.int .i64 (5 : Int)).wf = true := by decide
                        subst hts
                        have hc0 : cntB f 4 = 0 := hct
                        clear hct
                        have hTk := recl_one hO 5 hm hqw (by omega) (by omega)
                        have hmy : mayF (some (pO what [])) 5 5 = 0 := by rw [may5_2, if_pos rfl]
                        have htk := rc_yes (ev := ev) hmy
                        rw [hmy] at hTk
                        rw [htk.1, htk.2] at hTk
                        clear hmy htk
                        go_wp2_with (first
                          | (go_at_call 39; (refine hTk.mono ?_; clear hTk; rintro e w3 ⟨ow3, vd, vf, rfl, hvd, _, hO3, hk3⟩; obtain ⟨v7, v8, rfl, r7, r8⟩ := hvd; obtain ⟨s7, c7, rfl⟩ := row_form r7.1; obtain ⟨s8, c8, rfl⟩ := row_form r8.1; have hka := Kept.quiet (ow := ow3) (GrowBut.alloc w3 (.cells #[.int .i64 (toldD (some (pO what [])) 0).kind, .int .i64 (toldD (some (pO what [])) 0).sender, .bool (toldD (some (pO what [])) 0).zero, .slice s7 (toldD (some (pO what [])) 0).recvs.length c7, .slice s8 (toldD (some (pO what [])) 0).spans.length c8] 58) []); have hDl3 := (hDl.kept hk3).kept hka; have hT3 := (hT.kept hk3).kept hka))
                          | fail)
                        have hkA := hk3.trans hka
                        go_meet
                        case rel => exact ⟨bt, _, (owN ow3 w3 (-2)), _, (ev ++ [5]), f, by first | rfl | simp, by first | rfl | simp, by first | (simp only [List.length_append, List.length_cons, List.length_nil]; omega) | omega, (hO3.quiet (GrowBut.alloc _ _ _)).more (by omega), p_recl hbt hf hp, hDl3, hT3, hkA.grow hG hlo, fun x hx => by rw [hkA.old (Nat.lt_of_lt_of_le hx hG.size)]; exact hlo x hx⟩
                      · have hqw : (Lit.int .i64 (5 : Int)).wf = true := by decide
                        have hc0 : ¬ cntB f 4 = 0 := fun e => hts (List.length_eq_zero_iff.1 (hct.symm.trans e))
                        have hc1 : ((cntB f 4 : Int) == 0) = false := by rw [beq_eq_false_iff_ne]; omega
                        clear hct
                        have hTk := recl_one hO 5 hm hqw (by omega) (by omega)
                        have hmy : mayF (some (pO what ts)) 5 5 = -6 := by rw [may5_2, if_neg hts]
                        have htk := rc_no (ev := ev) (o := some (pO what ts)) (who := 5) (by rw [hmy]; decide)
                        rw [hmy] at hTk
                        rw [htk.1, htk.2] at hTk
                        clear hmy htk
                        go_wp2_with (first
                          | (go_at_call 39; (refine hTk.mono ?_; clear hTk; rintro e w3 ⟨ow3, vd, vf, rfl, hvd, _, hO3, hk3⟩; obtain ⟨v7, v8, rfl, r7, r8⟩ := hvd; obtain ⟨s7, c7, rfl⟩ := row_form r7.1; obtain ⟨s8, c8, rfl⟩ := row_form r8.1; have hka := Kept.quiet (ow := ow3) (GrowBut.alloc w3 (.cells #[.int .i64 (toldD (some (pO what ts)) (-6)).kind, .int .i64 (toldD (some (pO what ts)) (-6)).sender, .bool (toldD (some (pO what ts)) (-6)).zero, .slice s7 (toldD (some (pO what ts)) (-6)).recvs.length c7, .slice s8 (toldD (some (pO what ts)) (-6)).spans.length c8] 58) []); have hDl3 := (hDl.kept hk3).kept hka; have hT3 := (hT.kept hk3).kept hka))
                          | fail)
                        have hkA := hk3.trans hka
                        go_meet
                        case rel => exact ⟨bt, _, (owN ow3 w3 (-2)), _, ev, f, by first | rfl | simp, by first | rfl | simp, by first | (simp only [List.length_append, List.length_cons, List.length_nil]; omega) | omega, (hO3.quiet (GrowBut.alloc _ _ _)).more (by omega), hI, hDl3, hT3, hkA.grow hG hlo, fun x hx => by rw [hkA.old (Nat.lt_of_lt_of_le hx hG.size)]; exact hlo x hx⟩
              · as_aux_lemma =>
                  · rcases hI.alt with ⟨rfl, rfl, hf, hp⟩ | ⟨rfl, rfl, hf, hp⟩ | ⟨rfl, ts, rfl, hn, hf, hs, h3, hp⟩
                    · have hDr := drop_one hO hm (by omega) (by omega)
                      rw [show isSent (none) = false from rfl, show dropO (none) = none from rfl, show dropE (none) ev = ev from rfl] at hDr
                      go_wp2_with (first
                        | (go_at_call 40; (refine hDr.mono ?_; clear hDr; rintro e w3 ⟨ow3, rfl, hO3, hkA⟩))
                        | fail)
                      go_meet
                      case rel => exact ⟨bt, _, ow3, _, ev, f, by first | rfl | simp, by first | rfl | simp, by first | (simp only [List.length_append, List.length_cons, List.length_nil]; omega) | omega, hO3.more (by omega), hI, hDl.kept hkA, hT.kept hkA, hkA.grow hG hlo, fun x hx => by rw [hkA.old (Nat.lt_of_lt_of_le hx hG.size)]; exact hlo x hx⟩
                    · have hDr := drop_one hO hm (by omega) (by omega)
                      rw [show isSent (some (pS what (List.replicate bt 1))) = true from rfl, show dropO (some (pS what (List.replicate bt 1))) = none from rfl, show dropE (some (pS what (List.replicate bt 1))) ev = ev ++ [7] from rfl] at hDr
                      go_wp2_with (first
                        | (go_at_call 40; (refine hDr.mono ?_; clear hDr; rintro e w3 ⟨ow3, rfl, hO3, hkA⟩))
                        | fail)
                      go_meet
                      case rel => exact ⟨bt, _, ow3, _, (ev ++ [7]), f, by first | rfl | simp, by first | rfl | simp, by first | (simp only [List.length_append, List.length_cons, List.length_nil]; omega) | omega, hO3.more (by omega), p_drop hbt hf hp, hDl.kept hkA, hT.kept hkA, hkA.grow hG hlo, fun x hx => by rw [hkA.old (Nat.lt_of_lt_of_le hx hG.size)]; exact hlo x hx⟩
                    · have hDr := drop_one hO hm (by omega) (by omega)
                      rw [show isSent (some (pO what ts)) = false from rfl, show dropO (some (pO what ts)) = some (pO what ts) from rfl, show dropE (some (pO what ts)) ev = ev from rfl] at hDr
                      go_wp2_with (first
                        | (go_at_call 40; (refine hDr.mono ?_; clear hDr; rintro e w3 ⟨ow3, rfl, hO3, hkA⟩))
                        | fail)
                      go_meet
                      case rel => exact ⟨bt, _, ow3, _, ev, f, by first | rfl | simp, by first | rfl | simp, by first | (simp only [List.length_append, List.length_cons, List.length_nil]; omega) | omega, hO3.more (by omega), hI, hDl.kept hkA, hT.kept hkA, hkA.grow hG hlo, fun x hx => by rw [hkA.old (Nat.lt_of_lt_of_le hx hG.size)]; exact hlo x hx⟩
            case rest =>
              clear hO hI hDl hT hG hlo hel hczr
              obtain ⟨bt', st', ow', o', ev', f', rfl, rfl, hel', hO', hI', hDl', hT', hG', hlo'⟩ := hcut
              have hEv := events_one hO' hm (by omega) (by omega)
              go_wp2_with (first
                | (go_at_call 42; (refine hEv.mono ?_; clear hEv; rintro e w5 ⟨ve, rfl, hrow, hg5⟩; have hPt := path_calls ev' (st', cntB f' 4) w5 hrow hI'.path (by omega); obtain ⟨se, ce, rfl⟩ := row_form hrow))
                | (go_at_call 41; (refine hPt.mono ?_; clear hPt; rintro e w6 ⟨rfl, hw6⟩; rw [hw6]; clear hw6 w6))
                | fail)
              have hT5 := hT'.kept (Kept.quiet hg5)
              have hDl5 := hDl'.kept (Kept.quiet hg5)
              have hO5 := hO'.quiet hg5
              have hG5 := hG'.trans hg5
              have hlo5 : ∀ x, x < w.heap.size → owN ow' wc (-2) x = -2 := fun x hx => by rw [owN_old _ (Nat.lt_of_lt_of_le hx hG'.size)]; exact hlo' x hx
              clear hT' hDl' hO' hG' hlo' hrow hg5
              go_loopw [15, 35] (fun v15 v35 wx => ∃ j : Nat, v35 = .int .i64 j ∧ j ≤ 4 ∧ v15 = .int .i64 (cntB f' j) ∧ wx = w5) (fun _ v35 _ => 4 - intOf v35)
              case atStart => exact ⟨0, rfl, by omega, rfl, rfl⟩
              case round =>
                obtain ⟨j, rfl, hj, rfl, rfl⟩ := hrel
                have hsuc := cntB_succ f' j
                have hcl := cntB_le f' j
                by_cases hj4 : j < 4
                · have hj4' : (j : Int) < 4 := by omega
                  have hcj := hT5.c j hj4
                  cases hfj : f' j with
                  | true =>
                    rw [hfj] at hcj hsuc
                    simp only [if_true] at hsuc
                    have hw := IntWalk.i64_in ((cntB f' j : Int) + 1) (by omega)
                    go_wp2_with fail
                    exact ⟨⟨j + 1, by simp, by omega, by rw [hsuc]; simp, by first | rfl | trivial⟩, by simp [intOf]; omega⟩
                  | false =>
                    rw [hfj] at hcj hsuc
                    simp only [Bool.false_eq_true, if_false, Nat.add_zero] at hsuc
                    go_wp2_with fail
                    exact ⟨⟨j + 1, by simp, by omega, by rw [hsuc], by first | rfl | trivial⟩, by simp [intOf]; omega⟩
                · have hge : ¬ (j : Int) < 4 := by omega
                  have hje : j = 4 := by omega
                  subst hje
                  clear hsuc hcl
                  go_wp2_with fail
                  exact ⟨⟨i + 1, bt', st', owN ow' wc (-2), o', ev', f', rfl, rfl, by simp, by omega, by omega, hO5.more (by omega), hI', hDl5, hT5, hG5, hlo5⟩, by simp [intOf]; omega⟩
      · have hge : ¬ (i : Int) < (zs.length : Int) := by omega
        have hG0 := hG.keepAll
        go_wp2_with fail
        go_ret
        exact ⟨rfl, hG0⟩

end Go.Proofs.Ytcoedmiichppdaa
