/-
  SpanMeets: the walk.
-/
import Derived.Test.YtlcmcdgbidiicaaSpanM
import Derived.Test.YtlcmcdgbidiicaaOpens
import Derived.BigQuiet
namespace Go.Proofs.Ytlcmcdgbidiicaa
open Go Go.RowKit Go.Maps Go.Am
set_option linter.unusedVariables false

theorem wf_u8s {a : Int} (h : (Lit.int .u8 a).wf = true) : 0 ≤ a ∧ a < 256 := by
  simp only [Lit.wf, Bool.and_eq_true, decide_eq_true_eq] at h
  have hm : IntKind.u8.min = 0 := by decide
  have hM : IntKind.u8.max = 255 := by decide
  rw [hm, hM] at h
  omega

theorem wf_u16s {a : Int} (h : (Lit.int .u16 a).wf = true) : 0 ≤ a ∧ a < 65536 := by
  simp only [Lit.wf, Bool.and_eq_true, decide_eq_true_eq] at h
  have hm : IntKind.u16.min = 0 := by decide
  have hM : IntKind.u16.max = 65535 := by decide
  rw [hm, hM] at h
  omega

set_option maxRecDepth 100000 in
set_option maxHeartbeats 4000000 in
theorem spanMeets_walk (a b n m : Int) (w : World) (ha : (Lit.int .u16 a).wf = true) (hb : (Lit.int .u16 b).wf = true) (hn : (Lit.int .u8 n).wf = true) (hm : (Lit.int .u8 m).wf = true) :
    Calls Try.prog 13 #[.int .u16 a, .int .u16 b, .int .u8 n, .int .u8 m] w fun e w' => e = .returned (.bool true) ∧ w.grownBy w' none := by
  have ha' := wf_u16s ha
  have hb' := wf_u16s hb
  have hn' := wf_u8s hn
  have hm' := wf_u8s hm
  obtain ⟨p, hp, hpl⟩ : ∃ p : Nat, a % 200 = (p : Int) ∧ p < 200 := ⟨(a % 200).toNat, by omega, by omega⟩
  obtain ⟨q, hq, hql⟩ : ∃ q : Nat, b % 200 = (q : Int) ∧ q < 200 := ⟨(b % 200).toNat, by omega, by omega⟩
  obtain ⟨c, hc, hcl⟩ : ∃ c : Nat, n % 40 = (c : Int) ∧ c < 40 := ⟨(n % 40).toNat, by omega, by omega⟩
  obtain ⟨d, hd, hdl⟩ : ∃ d : Nat, m % 40 = (d : Int) ∧ d < 40 := ⟨(m % 40).toNat, by omega, by omega⟩
  go_enter Try.func13, Try.ntmps13
  go_upto_region 5 with (first
    | (go_at_call 71; refine (begunSpan_true _).mono ?_; rintro e w1 ⟨rfl, hb1⟩)
    | go_in)
  have hx0 : ((w1.alloc (.cells #[.int .i64 p, .int .i64 (1 + (c : Int))] 100)).alloc (.cells #[.int .i64 q, .int .i64 (1 + (d : Int))] 100)).cell? ⟨w1.heap.size, 0, none⟩ = some (.int .i64 p) := by go_simp
  have hx1 : ((w1.alloc (.cells #[.int .i64 p, .int .i64 (1 + (c : Int))] 100)).alloc (.cells #[.int .i64 q, .int .i64 (1 + (d : Int))] 100)).cell? ⟨w1.heap.size, 1, none⟩ = some (.int .i64 (1 + (c : Int))) := by go_simp
  have hy0 : ((w1.alloc (.cells #[.int .i64 p, .int .i64 (1 + (c : Int))] 100)).alloc (.cells #[.int .i64 q, .int .i64 (1 + (d : Int))] 100)).cell? ⟨w1.heap.size + 1, 0, none⟩ = some (.int .i64 q) := by go_simp
  have hy1 : ((w1.alloc (.cells #[.int .i64 p, .int .i64 (1 + (c : Int))] 100)).alloc (.cells #[.int .i64 q, .int .i64 (1 + (d : Int))] 100)).cell? ⟨w1.heap.size + 1, 1, none⟩ = some (.int .i64 (1 + (d : Int))) := by go_simp
  have hG : GrowBut w ((w1.alloc (.cells #[.int .i64 p, .int .i64 (1 + (c : Int))] 100)).alloc (.cells #[.int .i64 q, .int .i64 (1 + (d : Int))] 100)) [] := (GrowBut.of_below hb1).trans ((GrowBut.alloc _ _ _).trans (GrowBut.alloc _ _ _))
  generalize (w1.alloc (.cells #[.int .i64 p, .int .i64 (1 + (c : Int))] 100)).alloc (.cells #[.int .i64 q, .int .i64 (1 + (d : Int))] 100) = w3 at hx0 hx1 hy0 hy1 hG ⊢
  generalize w1.heap.size = X at hx0 hx1 hy0 hy1 ⊢
  generalize X + 1 = Y at hy0 hy1 ⊢
  have hcc : ((1 + c : Nat) : Int) = 1 + (c : Int) := by omega
  have hdd : ((1 + d : Nat) : Int) = 1 + (d : Int) := by omega
  have hm1 : ∀ wq, GrowBut w3 wq [] → Calls Try.prog 80 #[.slice (some ⟨X, 0, none⟩) 1 1, .slice (some ⟨Y, 0, none⟩) 1 1] wq fun r w' => r = .returned (.bool (decide (p < q + (1 + d)) && decide (q < p + (1 + c)))) ∧ GrowBut wq w' [] := fun wq hg =>
    meets_calls X 1 p (1 + c) Y 1 q (1 + d) wq (hg.cell hx0 (by simp)) (by rw [hcc]; exact hg.cell hx1 (by simp)) (by omega) (by omega) (by omega) (hg.cell hy0 (by simp)) (by rw [hdd]; exact hg.cell hy1 (by simp)) (by omega) (by omega) (by omega)
  have hm2 : ∀ wq, GrowBut w3 wq [] → Calls Try.prog 80 #[.slice (some ⟨Y, 0, none⟩) 1 1, .slice (some ⟨X, 0, none⟩) 1 1] wq fun r w' => r = .returned (.bool (decide (q < p + (1 + c)) && decide (p < q + (1 + d)))) ∧ GrowBut wq w' [] := fun wq hg =>
    meets_calls Y 1 q (1 + d) X 1 p (1 + c) wq (hg.cell hy0 (by simp)) (by rw [hdd]; exact hg.cell hy1 (by simp)) (by omega) (by omega) (by omega) (hg.cell hx0 (by simp)) (by rw [hcc]; exact hg.cell hx1 (by simp)) (by omega) (by omega) (by omega)
  have hm3 : ∀ wq, GrowBut w3 wq [] → Calls Try.prog 80 #[.slice (some ⟨X, 0, none⟩) 1 1, .slice none 0 0] wq fun r w' => r = .returned (.bool false) ∧ GrowBut wq w' [] := fun wq hg =>
    meets0_calls X 1 p (1 + c) wq (hg.cell hx0 (by simp)) (by rw [hcc]; exact hg.cell hx1 (by simp)) (by omega) (by omega) (by omega)
  have hcase : ((p : Int) < q + (1 + (d : Int)) ∧ (q : Int) < p + (1 + (c : Int)) ∧ (decide (p < q + (1 + d)) && decide (q < p + (1 + c))) = true ∧ (decide (q < p + (1 + c)) && decide (p < q + (1 + d))) = true) ∨
      ((p : Int) < q + (1 + (d : Int)) ∧ ¬ (q : Int) < p + (1 + (c : Int)) ∧ (decide (p < q + (1 + d)) && decide (q < p + (1 + c))) = false ∧ (decide (q < p + (1 + c)) && decide (p < q + (1 + d))) = false) ∨
      (¬ (p : Int) < q + (1 + (d : Int)) ∧ (decide (p < q + (1 + d)) && decide (q < p + (1 + c))) = false ∧ (decide (q < p + (1 + c)) && decide (p < q + (1 + d))) = false) := by
    by_cases t1 : p < q + (1 + d) <;> by_cases t2 : q < p + (1 + c) <;> simp [t1, t2] <;> omega
  clear hcc hdd
  rcases hcase with ⟨t1, t2, e1, e2⟩ | ⟨t1, t2, e1, e2⟩ | ⟨t1, e1, e2⟩
  all_goals
    rw [e1] at hm1
    rw [e2] at hm2
    clear e1 e2
    go_quiet (fail)
    have hq0 : GrowBut w3 (w3.drewN nq) [] := GrowBut.drewN _ _ _
    go_wp2_with (first
      | (go_at_call 80; refine (hm1 _ hq0).mono ?_; clear hm1; rintro r w4 ⟨rfl, hg4⟩)
      | (go_at_call 80; refine (hm2 w4 (hq0.trans hg4)).mono ?_; clear hm2; rintro r w5 ⟨rfl, hg5⟩)
      | (go_at_call 80; refine (hm3 w5 ((hq0.trans hg4).trans hg5)).mono ?_; clear hm3; rintro r w6 ⟨rfl, hg6⟩)
      | go_in)
    go_ret
    exact ⟨rfl, (((hG.trans hq0).trans hg4).trans (hg5.trans hg6)).keepAll⟩

end Go.Proofs.Ytlcmcdgbidiicaa
