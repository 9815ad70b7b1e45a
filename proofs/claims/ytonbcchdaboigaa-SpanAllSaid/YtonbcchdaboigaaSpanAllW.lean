/-
  SpanAll: the walk.
-/
import Derived.Test.YtonbcchdaboigaaSpanZ
import Derived.Test.YtonbcchdaboigaaSpanN
import Derived.Test.YtonbcchdaboigaaSameJ
import Derived.Test.YtonbcchdaboigaaSameS
import Derived.Test.YtonbcchdaboigaaSpanB
namespace Go.Proofs.Ytonbcchdaboigaa
open Go Go.RowKit Go.Maps Go.Am
set_option linter.unusedVariables false

theorem ints_at {w : World} {p : Option Addr} {d : Nat} {q : IntKind} {zs : List Int} (hz : ∀ i, i < d → ∃ a, p = some a ∧ a.block < w.heap.size ∧ w.cell? (a.add i) = some (.int q (zs.getD i 0))) :
    ∀ i, i < d → ∃ g off, p = some ⟨g, off, none⟩ ∧ g < w.heap.size ∧ w.cell? ⟨g, off + i, none⟩ = some (.int q (zs.getD i 0)) := by
  intro i hi
  obtain ⟨⟨g, off, sp⟩, rfl, hg, _⟩ := hz 0 (by omega)
  have hsp : sp = none := by
    obtain ⟨a, ha, _, hc⟩ := hz 0 (by omega)
    cases ha
    simp [Addr.add, World.cell?] at hc
    split at hc
    · by_cases hs : sp = none
      · exact hs
      · simp [hs] at hc
    · cases hc
  subst hsp
  obtain ⟨a, ha, _, hc⟩ := hz i hi
  cases ha
  refine ⟨g, off, rfl, hg, ?_⟩
  have hadd : Addr.add ⟨g, off, none⟩ i = ⟨g, off + i, none⟩ := by
    unfold Addr.add
    by_cases hk : i = 0 <;> simp [hk]
  rw [hadd] at hc
  exact hc

theorem spans_of_row {w : World} {base : Nat} {v : Value} {R : List (Nat × Nat)} (hrow : w.ownsRow base 64 2 v R.length (encS R)) (hR : ∀ r ∈ R, r.1 < 1000000 ∧ r.2 < 1000000) : ∃ s c g, v = .slice s R.length c ∧ SpansIn w s g 0 (asI R) := by
  rcases hrow.2 with ⟨rfl, hz⟩ | ⟨g, cap, cur, rfl, hb, hg, r1, r2, r3, r4⟩
  · exact ⟨none, 0, 0, by rw [hz], fun h0 => by rw [asI_len] at h0; omega⟩
  · refine ⟨some ⟨g, 0, none⟩, cap, g, rfl, fun h0 => ⟨rfl, fun j hj => ?_⟩⟩
    rw [asI_len] at hj
    have hm : R[j]? = some (R.getD j (0, 0)) := by rw [List.getD_eq_getElem?_getD, List.getElem?_eq_getElem hj]; rfl
    have hin := hR _ (List.mem_of_getElem? hm)
    have e : (asI R).getD j (0, 0) = (((R.getD j (0, 0)).1 : Int), ((R.getD j (0, 0)).2 : Int)) := by
      unfold asI
      rw [List.getD_eq_getElem?_getD, List.getElem?_map, hm]; rfl
    rw [e]
    refine ⟨?_, ?_, wf_small (by omega) (by omega), wf_small (by omega) (by omega)⟩
    · rw [Nat.zero_add, hrow.cellAt _ (by omega), (encS_at R j).1, hm]; rfl
    · rw [Nat.zero_add, hrow.cellAt _ (by omega), (encS_at R j).2, hm]; rfl

theorem ints_in {w : World} {p : Option Addr} {zs : List Int} (hz : ∀ i, i < zs.length → ∃ a, p = some a ∧ a.block < w.heap.size ∧ w.cell? (a.add i) = some (.int .i64 (zs.getD i 0))) (hw : ∀ n ∈ zs, (Lit.int .i64 n).wf = true) :
    ∃ b off, 0 < zs.length → p = some ⟨b, off, none⟩ ∧ ∀ j, j < zs.length → w.cell? ⟨b, off + j, none⟩ = some (.int .i64 (zs.getD j 0)) ∧ (Lit.int .i64 (zs.getD j 0)).wf = true := by
  replace hz := ints_at hz
  rcases Nat.eq_zero_or_pos zs.length with h0 | h0
  · exact ⟨0, 0, fun h => by omega⟩
  · obtain ⟨g, off, rfl, _, _⟩ := hz 0 h0
    refine ⟨g, off, fun _ => ⟨rfl, fun j hj => ?_⟩⟩
    obtain ⟨g', off', he, _, hc⟩ := hz j hj
    cases he
    exact ⟨hc, hw _ (by rw [List.getD_eq_getElem?_getD, List.getElem?_eq_getElem hj]; simp)⟩

theorem pagesT_len40 (l : List (Int × Int)) : ((pagesT l).getD []).length ≤ 40 := by
  unfold pagesT
  by_cases hl : 1 ≤ l.length ∧ l.length ≤ 8
  · rw [if_pos hl]
    cases h : pagesG l [] with
    | none => simp
    | some out => have := pagesG_len l [] out (by simp) h; simpa using this
  · rw [if_neg hl]; simp

theorem rowJ_of {w : World} {base : Nat} {v : Value} {L : List Int} (hrow : w.ownsRow base 3 1 v L.length (L.map (Value.int .i64))) : ∃ s cap g, v = .slice s L.length cap ∧ RowJ w s g L := rowI_open hrow

theorem ofS_small {zs : List Int} : ∀ r ∈ ofS zs, r.1 < 1000000 ∧ r.2 < 1000000 := fun r hr => by
  rw [ofS_pgU] at hr
  have := rows_ok (pgU zs 4096) (m := 4096) (fun x hx => (mem_pgU.1 hx).1) r hr
  omega

theorem ofS_len {zs : List Int} : (ofS zs).length ≤ 4096 := by
  rw [ofS_pgU]
  exact Nat.le_trans (rowsS_le _) (pgU_le zs 4096)

set_option maxRecDepth 100000 in
set_option maxHeartbeats 8000000 in
theorem spanAll_walk (l : List (Int × Int)) (p : Option Addr) (g off cap : Nat) (m : List (Int × Int)) (q : Option Addr) (g2 off2 cap2 : Nat) (zs : List Int) (r : Option Addr) (cap3 : Nat) (w : World)
    (hS1 : SpansIn w p g off l) (hS2 : SpansIn w q g2 off2 m) (hz : ∀ i, i < zs.length → ∃ a, r = some a ∧ a.block < w.heap.size ∧ w.cell? (a.add i) = some (.int .i64 (zs.getD i 0))) (hwz : ∀ n ∈ zs, (Lit.int .i64 n).wf = true) :
    Calls Try.prog 3 #[.slice p l.length cap, .slice q m.length cap2, .slice r zs.length cap3] w fun e w' => e = .returned (.bool true) ∧ w.grownBy w' none := by
  obtain ⟨b, o, hz'⟩ := ints_in hz hwz
  clear hz hwz
  by_cases hl1 : 10 < l.length
  · have d1 : decide (10 < (l.length : Int)) = true := decide_eq_true (by omega)
    go_enter Try.func3, Try.ntmps3
    go_wp2_with (first
      | (go_at_call 11; refine (begunSpan_true w).mono ?_; rintro e wb ⟨rfl, hbel⟩)
      | fail)
    go_ret
    exact ⟨rfl, (GrowBut.of_below hbel).keepAll⟩
  by_cases hl2 : 10 < m.length
  · have d1 : decide (10 < (l.length : Int)) = false := decide_eq_false (by omega)
    have d2 : decide (10 < (m.length : Int)) = true := decide_eq_true (by omega)
    go_enter Try.func3, Try.ntmps3
    go_wp2_with (first
      | (go_at_call 11; refine (begunSpan_true w).mono ?_; rintro e wb ⟨rfl, hbel⟩)
      | fail)
    go_ret
    exact ⟨rfl, (GrowBut.of_below hbel).keepAll⟩
  by_cases hl3 : 50 < zs.length
  · have d1 : decide (10 < (l.length : Int)) = false := decide_eq_false (by omega)
    have d2 : decide (10 < (m.length : Int)) = false := decide_eq_false (by omega)
    have d3 : decide (50 < (zs.length : Int)) = true := decide_eq_true (by omega)
    go_enter Try.func3, Try.ntmps3
    go_wp2_with (first
      | (go_at_call 11; refine (begunSpan_true w).mono ?_; rintro e wb ⟨rfl, hbel⟩)
      | fail)
    go_ret
    exact ⟨rfl, (GrowBut.of_below hbel).keepAll⟩
  have d1 : decide (10 < (l.length : Int)) = false := decide_eq_false (by omega)
  have d2 : decide (10 < (m.length : Int)) = false := decide_eq_false (by omega)
  have d3 : decide (50 < (zs.length : Int)) = false := decide_eq_false (by omega)
  have hMa := fun w1 (hg : GrowBut w w1 []) => mayT_calls p g off cap l w1 (hS1.kept hg (by simp)) (by omega)
  have hMb := fun w1 (hg : GrowBut w w1 []) => mayR_calls p g off cap l w1 (hS1.kept hg (by simp)) (by omega)
  have hPa := fun w1 (hg : GrowBut w w1 []) => PagesT_calls p g off cap l w1 (hS1.kept hg (by simp)) (by omega)
  have hPb := fun w1 (hg : GrowBut w w1 []) => PagesR_calls p g off cap l w1 (hS1.kept hg (by simp)) (by omega)
  have hOa := fun w1 (hg : GrowBut w w1 []) => ofI_calls r b o cap3 zs w1 (fun h0 => ⟨(hz' h0).1, fun j hj => ⟨hg.cell ((hz' h0).2 j hj).1 (by simp), ((hz' h0).2 j hj).2⟩⟩) (by omega)
  have hOb := fun w1 (hg : GrowBut w w1 []) => OfR_calls r b o cap3 zs w1 (fun h0 => ⟨(hz' h0).1, fun j hj => ⟨hg.cell ((hz' h0).2 j hj).1 (by simp), ((hz' h0).2 j hj).2⟩⟩) (by omega)
  have hEa := fun w1 (hg : GrowBut w w1 []) => MeetsT_calls p q g g2 off off2 cap cap2 l m w1 (hS1.kept hg (by simp)) (hS2.kept hg (by simp)) (by omega) (by omega)
  have hEb := fun w1 (hg : GrowBut w w1 []) => MeetsR_calls p q g g2 off off2 cap cap2 l m w1 (hS1.kept hg (by simp)) (hS2.kept hg (by simp)) (by omega) (by omega)
  have hXl := pagesT_len40 l
  obtain ⟨tb, htb⟩ : ∃ tb, (pagesT l).isSome = tb := ⟨_, rfl⟩
  obtain ⟨mb, hmb⟩ : ∃ mb, meetsP ((pagesT l).getD []) ((pagesT m).getD []) = mb := ⟨_, rfl⟩
  simp only [htb] at hMa hMb
  simp only [hmb] at hEa hEb
  obtain ⟨X, hX⟩ : ∃ X, (pagesT l).getD [] = X := ⟨_, rfl⟩
  simp only [hX] at hPa hPb hXl
  have hRl := ofS_len (zs := zs)
  have hRs := ofS_small (zs := zs)
  obtain ⟨R, hR⟩ : ∃ R, ofS zs = R := ⟨_, rfl⟩
  simp only [hR] at hOa hOb hRl hRs
  clear htb hmb hX hR hS1 hS2 hz'
  have htt : (tb == tb) = true := by simp
  have hmm : (mb == mb) = true := by simp
  go_enter Try.func3, Try.ntmps3
  go_wp2_with (first
    | (go_at_call 11; refine (begunSpan_true w).mono ?_; rintro e w1 ⟨rfl, hbel⟩; have hG1 : GrowBut w w1 [] := .of_below hbel; have hM1 := hMa w1 hG1)
    | (go_at_call 12; (refine hM1.mono ?_; rintro e w2 ⟨rfl, hg2⟩; have hG2 := hG1.trans hg2; have hM2 := hMb w2 hG2))
    | (go_at_call 13; (refine hM2.mono ?_; rintro e w3 ⟨rfl, hg3⟩; have hG3 := hG2.trans hg3; have hP3 := hPa w3 hG3))
    | (go_at_call 15; (refine hP3.mono ?_; rintro e w4 ⟨v4, rfl, hg4, hrow4⟩; obtain ⟨s4, c4, k4, rfl, hV4⟩ := rowJ_of hrow4; have hG4 := hG3.trans hg4; have hP4 := hPb w4 hG4))
    | (go_at_call 16; (refine hP4.mono ?_; rintro e w5 ⟨v5, rfl, hg5, hrow5⟩; obtain ⟨s5, c5, k5, rfl, hV5⟩ := rowJ_of hrow5; have hG5 := hG4.trans hg5; have hS5 := sameJ_calls s4 s5 k4 k5 c4 c5 X X w5 (hV4.kept hg5) hV5 (by omega); rw [decide_eq_true (rfl : X = X)] at hS5))
    | (go_at_call 14; (refine hS5.mono ?_; rintro e w6 ⟨rfl, hg6⟩; have hG6 := hG5.trans hg6; have hO6 := hOa w6 hG6))
    | (go_at_call 18; (refine hO6.mono ?_; rintro e w7 ⟨v7, rfl, hrow7, hg7⟩; obtain ⟨s7, c7, k7, rfl, hV7⟩ := spans_of_row hrow7 hRs; have hG7 := hG6.trans hg7; have hO7 := hOb w7 hG7))
    | (go_at_call 19; (refine hO7.mono ?_; rintro e w8 ⟨v8, rfl, hrow8, hg8⟩; obtain ⟨s8, c8, k8, rfl, hV8⟩ := spans_of_row hrow8 hRs; have hG8 := hG7.trans hg8; have hA8 := alike_calls s7 s8 k7 k8 0 0 c7 c8 (asI R) (asI R) w8 (hV7.kept hg8 (by simp)) hV8 (by rw [asI_len]; omega); rw [decide_eq_true (rfl : asI R = asI R)] at hA8; simp only [asI_len] at hA8))
    | (go_at_call 17; (refine hA8.mono ?_; rintro e w9 ⟨rfl, hg9⟩; have hG9 := hG8.trans hg9; have hE9 := hEa w9 hG9))
    | (go_at_call 20; (refine hE9.mono ?_; rintro e w10 ⟨rfl, hg10⟩; have hG10 := hG9.trans hg10; have hE10 := hEb w10 hG10))
    | (go_at_call 21; (refine hE10.mono ?_; rintro e w11 ⟨rfl, hg11⟩; have hG11 := hG10.trans hg11))
    | fail)
  go_ret
  exact ⟨rfl, hG11.keepAll⟩

end Go.Proofs.Ytonbcchdaboigaa
