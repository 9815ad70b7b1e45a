/-
  The statements' own comparison of rows of pages.
-/
import Derived.Test.YtonbcchdaboigaaSpanY
import Derived.BigRegion
namespace Go.Proofs.Ytonbcchdaboigaa
open Go Go.RowKit Go.Maps Go.Am
set_option linter.unusedVariables false

theorem take_snocI {l : List (Int × Int)} {j : Nat} (h : j < l.length) : l.take (j + 1) = l.take j ++ [l.getD j (0, 0)] := by
  rw [List.take_add_one, List.getElem?_eq_getElem h, List.getD_eq_getElem?_getD, List.getElem?_eq_getElem h]; rfl

set_option maxRecDepth 100000 in
set_option maxHeartbeats 4000000 in
theorem alike_calls (s1 s2 : Option Addr) (b1 b2 o1 o2 c1 c2 : Nat) (l m : List (Int × Int)) (w : World) (h1 : SpansIn w s1 b1 o1 l) (h2 : SpansIn w s2 b2 o2 m) (hl : m.length ≤ 100000) :
    Calls Try.prog 17 #[.slice s1 l.length c1, .slice s2 m.length c2] w fun e w' => e = .returned (.bool (decide (l = m))) ∧ GrowBut w w' [] := by
  by_cases hlen : l.length = m.length
  · have hb : ((m.length : Int) == (m.length : Int)) = true := by rw [beq_iff_eq]
    rw [hlen]
    go_enter Try.func17, Try.ntmps17
    go_wp2_with fail
    go_loopw [5] (fun v5 wx => ∃ j : Nat, v5 = .int .i64 j ∧ j ≤ m.length ∧ l.take j = m.take j ∧ GrowBut w wx []) (fun v5 _ => m.length - intOf v5)
    case atStart => exact ⟨0, rfl, by omega, by simp, .refl _ _⟩
    case round =>
      obtain ⟨j, rfl, hj, hte, hG⟩ := hrel
      by_cases hlt : j < m.length
      · have hlt' : (j : Int) < (m.length : Int) := by omega
        have hlz : j < l.length := by omega
        obtain ⟨rfl, hc1⟩ := h1 (by omega)
        obtain ⟨rfl, hc2⟩ := h2 (by omega)
        obtain ⟨a0, a1, _, _⟩ := hc1 j hlz
        obtain ⟨e0, e1, _, _⟩ := hc2 j hlt
        replace a0 := hG.cell a0 (by simp)
        replace a1 := hG.cell a1 (by simp)
        replace e0 := hG.cell e0 (by simp)
        replace e1 := hG.cell e1 (by simp)
        have htz := take_snocI hlz
        have hty := take_snocI hlt
        have hne : l.getD j (0, 0) ≠ m.getD j (0, 0) → l ≠ m := fun h e => h (by rw [e])
        clear hc1 hc2 h1 h2
        generalize l.getD j (0, 0) = x at a0 a1 htz hne
        generalize m.getD j (0, 0) = y at e0 e1 hty hne
        obtain ⟨x1, x2⟩ := x
        obtain ⟨y1, y2⟩ := y
        simp only at a0 a1 e0 e1
        by_cases he : x1 = y1
        · by_cases he2 : x2 = y2
          · have heb : (x1 == y1) = true := by rw [beq_iff_eq]; exact he
            have heb2 : (x2 == y2) = true := by rw [beq_iff_eq]; exact he2
            have hte' : l.take (j + 1) = m.take (j + 1) := by rw [htz, hty, hte, he, he2]
            clear he he2 htz hty hte hne
            go_upto_region 6 with fail
            go_quiet (fail)
            go_wp2_with fail
            exact ⟨⟨j + 1, by simp, by omega, hte', hG.trans (.drewN _ _ _)⟩, by simp [intOf]; omega⟩
          · have heb : (x1 == y1) = true := by rw [beq_iff_eq]; exact he
            have heb2 : (x2 == y2) = false := by rw [beq_eq_false_iff_ne]; exact he2
            have hno := hne (by intro e; cases e; exact he2 rfl)
            clear he he2 htz hty hte hne
            go_upto_region 6 with fail
            go_quiet (fail)
            go_wp2_with fail
            go_ret
            exact ⟨by first | rfl | (rw [decide_eq_false hno]; rfl), hG.trans (.drewN _ _ _)⟩
        · have heb : (x1 == y1) = false := by rw [beq_eq_false_iff_ne]; exact he
          have hno := hne (by intro e; cases e; exact he rfl)
          clear he htz hty hte hne
          go_upto_region 6 with fail
          go_quiet (fail)
          go_wp2_with fail
          go_ret
          exact ⟨by first | rfl | (rw [decide_eq_false hno]; rfl), hG.trans (.drewN _ _ _)⟩
      · have hge : ¬ (j : Int) < (m.length : Int) := by omega
        have hjl : j = m.length := by omega
        have he : l = m := by
          rw [hjl, List.take_length] at hte
          rw [← hte, ← hlen, List.take_length]
        clear hte
        go_wp2_with fail
        go_ret
        exact ⟨rfl, hG⟩
  · have hb : ((l.length : Int) == (m.length : Int)) = false := by rw [beq_eq_false_iff_ne]; omega
    have hno : l ≠ m := fun e => hlen (by rw [e])
    rw [decide_eq_false hno]
    clear hlen hno
    go_enter Try.func17, Try.ntmps17
    go_wp2_with fail
    go_ret
    exact ⟨rfl, .refl _ _⟩

end Go.Proofs.Ytonbcchdaboigaa
