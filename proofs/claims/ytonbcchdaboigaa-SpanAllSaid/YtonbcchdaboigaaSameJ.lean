/-
  The statements' own comparisons of rows of numbers.
-/
import Derived.Test.YtonbcchdaboigaaRefSpan2
namespace Go.Proofs.Ytonbcchdaboigaa
open Go Go.RowKit Go.Maps Go.Am
set_option linter.unusedVariables false

/-- A row of numbers. -/
def RowJ (w : World) (s : Option Addr) (g : Nat) (zs : List Int) : Prop := 0 < zs.length → s = some ⟨g, 0, none⟩ ∧ ∀ i, i < zs.length → w.cell? ⟨g, i, none⟩ = some (.int .i64 (zs.getD i 0))

theorem RowJ.kept {w w' : World} {s : Option Addr} {g : Nat} {zs : List Int} (h : RowJ w s g zs) (hg : GrowBut w w' []) : RowJ w' s g zs := fun h0 => ⟨(h h0).1, fun i hi => hg.cell ((h h0).2 i hi) (by simp)⟩

set_option maxRecDepth 100000 in
set_option maxHeartbeats 4000000 in
theorem sameJ_calls (s1 s2 : Option Addr) (g1 g2 c1 c2 : Nat) (zs ys : List Int) (w : World) (h1 : RowJ w s1 g1 zs) (h2 : RowJ w s2 g2 ys) (hl : zs.length ≤ 100000) :
    Calls Try.prog 14 #[.slice s1 zs.length c1, .slice s2 ys.length c2] w fun e w' => e = .returned (.bool (decide (zs = ys))) ∧ GrowBut w w' [] := by
  by_cases hlen : zs.length = ys.length
  · have hb : ((ys.length : Int) == (ys.length : Int)) = true := by rw [beq_iff_eq]
    rw [hlen] at hl ⊢
    go_enter Try.func14, Try.ntmps14
    go_wp2_with fail
    go_loopw [5] (fun v5 wx => ∃ j : Nat, v5 = .int .i64 j ∧ j ≤ ys.length ∧ zs.take j = ys.take j ∧ GrowBut w wx []) (fun v5 _ => ys.length - intOf v5)
    case atStart => exact ⟨0, rfl, by omega, by simp, .refl _ _⟩
    case round =>
      obtain ⟨j, rfl, hj, hte, hG⟩ := hrel
      by_cases hlt : j < ys.length
      · have hlt' : (j : Int) < (ys.length : Int) := by omega
        have hlz : j < zs.length := by omega
        obtain ⟨rfl, hc1⟩ := h1 (by omega)
        obtain ⟨rfl, hc2⟩ := h2 (by omega)
        have hd : GrowBut w wr.drew [] := hG.trans (.drew _ _)
        have c0 : wr.drew.cell? _ = _ := hd.cell (hc1 j hlz) (by simp)
        have c1 : wr.drew.cell? _ = _ := hd.cell (hc2 j hlt) (by simp)
        have htz := take_succ_getD hlz
        have hty := take_succ_getD hlt
        clear hc1 hc2 hd
        have hne : zs.getD j 0 ≠ ys.getD j 0 → zs ≠ ys := fun h e => h (by rw [e])
        generalize zs.getD j 0 = x at c0 htz hne
        generalize ys.getD j 0 = y at c1 hty hne
        by_cases he : x = y
        · have heb : (x == y) = true := by rw [beq_iff_eq]; exact he
          have hte' : zs.take (j + 1) = ys.take (j + 1) := by rw [htz, hty, hte, he]
          clear he htz hty hte hne
          go_upto_region 6 with fail
          go_region
          go_wp2_with fail
          exact ⟨⟨j + 1, by simp, by omega, hte', hG.trans (.drew _ _)⟩, by simp [intOf]; omega⟩
        · have heb : (x == y) = false := by rw [beq_eq_false_iff_ne]; exact he
          have hno := hne he
          clear he htz hty hte hne
          go_upto_region 6 with fail
          go_region
          go_wp2_with fail
          go_ret
          exact ⟨by first | rfl | (rw [decide_eq_false hno]; rfl), hG.trans (.drew _ _)⟩
      · have hge : ¬ (j : Int) < (ys.length : Int) := by omega
        have hjl : j = ys.length := by omega
        have he : zs = ys := by
          rw [hjl, List.take_length] at hte
          rw [← hte, ← hlen, List.take_length]
        clear hte
        go_wp2_with fail
        go_ret
        exact ⟨rfl, hG⟩
  · have hb : ((zs.length : Int) == (ys.length : Int)) = false := by rw [beq_eq_false_iff_ne]; omega
    have hno : zs ≠ ys := fun e => hlen (by rw [e])
    rw [decide_eq_false hno]
    clear hlen hno
    go_enter Try.func14, Try.ntmps14
    go_wp2_with fail
    go_ret
    exact ⟨rfl, .refl _ _⟩

end Go.Proofs.Ytonbcchdaboigaa
