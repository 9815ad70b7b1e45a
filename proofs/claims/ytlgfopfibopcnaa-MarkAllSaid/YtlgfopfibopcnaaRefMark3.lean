/-
  The reference's marks: Give.
-/
import Derived.Test.YtlgfopfibopcnaaRefMark2
import Derived.Test.YtlgfopfibopcnaaAppX
import Derived.StillTailTactics
namespace Go.Proofs.Ytlgfopfibopcnaa
open Go Go.RowKit Go.Maps Go.Am
set_option linter.unusedVariables false

set_option maxRecDepth 100000 in
theorem part_in (s : Int) (h0 : 0 ≤ s) (h6 : s < 6) (w : World) : Calls Try.prog 153 #[.int .i64 s] w fun e w' => e = .returned (.bool true) ∧ w' = w := by
  have h1 : s ≥ 0 := h0
  go_enter Try.func153, Try.ntmps153
  go_wp2_with go_in
  go_ret
  exact ⟨rfl, rfl⟩

set_option maxRecDepth 100000 in
theorem part_out (s : Int) (h : s < 0 ∨ 6 ≤ s) (w : World) : Calls Try.prog 153 #[.int .i64 s] w fun e w' => e = .returned (.bool false) ∧ w' = w := by
  rcases h with h | h
  · have h1 : ¬ s ≥ 0 := by omega
    go_enter Try.func153, Try.ntmps153
    go_wp2_with go_in
    go_ret
    exact ⟨rfl, rfl⟩
  · have h1 : s ≥ 0 := by omega
    have h2 : ¬ s < 6 := by omega
    go_enter Try.func153, Try.ntmps153
    go_wp2_with go_in
    go_ret
    exact ⟨rfl, rfl⟩

set_option maxRecDepth 100000 in
theorem rgive_arg (R : Nat) (s : Int) (h : s < 0 ∨ 6 ≤ s) (w : World) : Calls Try.prog 21 #[.pointer (some ⟨R, 0, none⟩), .int .i64 s] w fun e w' => e = .returned (.tuple #[.int .u64 0, .int .i64 (-2)]) ∧ w' = w := by
  go_enter Try.func21, Try.ntmps21
  go_wp2_with (first
    | (go_at_call 153; refine (part_out s h _).mono ?_; rintro r w9 ⟨rfl, hw9⟩; rw [hw9]; clear hw9 w9)
    | go_in)
  go_ret2
  exact ⟨rfl, rfl⟩

theorem rowU_len {w : World} {base k : Nat} {v : Value} {xs : List Value} (hrow : w.ownsRow base 23 1 v k xs) : ∃ q cq, v = .slice q k cq := by
  rcases hrow.2 with ⟨rfl, hz⟩ | ⟨g, cap, cur, rfl, hbase, hb, h1, h2, h3, h4⟩
  · exact ⟨none, 0, by rw [hz]⟩
  · exact ⟨_, _, rfl⟩

set_option maxRecDepth 100000 in
set_option maxHeartbeats 4000000 in
theorem rgive_full (base R : Nat) (g : Nat → Int) (L : List Int) (s : Int) (w : World) (h : RMarksAt w base R g L) (h0 : 0 ≤ s) (h6 : s < 6) (hf : (ofWho L s).length = 4) :
    Calls Try.prog 21 #[.pointer (some ⟨R, 0, none⟩), .int .i64 s] w fun e w' => e = .returned (.tuple #[.int .u64 0, .int .i64 (-3)]) ∧ GrowBut w w' [] := by
  have hO := rofM_calls base R g L s w h
  rw [hf] at hO
  go_enter Try.func21, Try.ntmps21
  go_wp2_with (first
    | (go_at_call 153; refine (part_in s h0 h6 _).mono ?_; rintro r w9 ⟨rfl, hw9⟩; rw [hw9]; clear hw9 w9)
    | (go_at_call 25; refine hO.mono ?_; rintro r w1 ⟨v, rfl, hrow, hg1⟩; obtain ⟨q, cq, rfl⟩ := rowU_len hrow)
    | go_in)
  go_ret2
  exact ⟨rfl, hg1⟩

theorem RMarksAt.bumped {w : World} {base R : Nat} {g : Nat → Int} {L : List Int} (h : RMarksAt w base R g L) {s : Nat} (hs : s < 6) {gv : Int} (hgv : g s = gv) : RMarksAt (w.setCell ⟨R, s, none⟩ (.int .u64 (gv + 1))) base R (upG g s) L := by
  subst hgv
  obtain ⟨v, hc, hrow⟩ := h.ex
  have hgs := GrowBut.setCell w ⟨R, s, none⟩ (.int .u64 (g s + 1))
  refine ⟨fun i hi => ?_, fun i hi => by rw [frozen_setCell]; exact h.fz i hi, ⟨v, cell_setCell_off hc (by omega), hgs.row hrow (fun j hj hm => by have h1 := (hrow.lt j hj).1; have := h.low; simp at hm; omega)⟩, by have := h.lt; simpa using this, h.low, h.wf, h.nodup, h.few⟩
  by_cases e : i = s
  · subst e
    simpa [upG] using cell_setCell_same (v := .int .u64 (g i + 1)) (h.c i hi)
  · simpa [upG, e] using cell_setCell_off (v := .int .u64 (g s + 1)) (h.c i hi) e

set_option maxRecDepth 100000 in
set_option maxHeartbeats 4000000 in
theorem rgive_more (base R : Nat) (g : Nat → Int) (L : List Int) (s : Nat) (w : World) (h : RMarksAt w base R g L) (hs : s < 6) (hb0 : base ≤ w.heap.size) (h0 : 0 ≤ g s) (hg : g s < 1000000) (hf : (ofWho L s).length < 4) (hL : L.length ≤ 900) (hnew : ((s + 1) * 4294967296 + (g s + 1)) ∉ L) (hwf : (Lit.int .u64 ((s + 1) * 4294967296 + (g s + 1))).wf = true) :
    Calls Try.prog 21 #[.pointer (some ⟨R, 0, none⟩), .int .i64 s] w fun e w' => e = .returned (.tuple #[.int .u64 ((s + 1) * 4294967296 + (g s + 1)), .int .i64 0]) ∧ RMarksAt w' base R (upG g s) (L ++ [((s + 1) * 4294967296 + (g s + 1))]) ∧ GrowBut w w' [R] ∧ RowNew w w' R := by
  obtain ⟨i0, hi0, hz0, hz1, hz2⟩ := info_parts infoM
  have hO := rofM_calls base R g L s w h
  have hPt := fun w => part_in s (by omega) (by omega) w
  have hlt4 : ((ofWho L s).length : Int) < 4 := by omega
  have hall : ∀ w1, GrowBut w w1 [] → RMarksAt w1 base R g L ∧ w1.cell? ⟨R, s, none⟩ = some (.int .u64 (g s)) ∧ w1.frozen? ⟨R, s, none⟩ = false := fun w1 hg1 => by
    have h1 := h.kept hg1 (by simp) (by simp)
    exact ⟨h1, h1.c s hs, h1.fz s (by omega)⟩
  generalize hF : (ofWho L s).length = F at hO hlt4
  generalize hgv : g s = gv at h0 hg hnew hwf hall ⊢
  have hfin : ∀ w1 w4 v, RMarksAt w1 base R g L → GrowBut w w1 [] → GrowBut ((w1.setCell ⟨R, s, none⟩ (.int .u64 (gv + 1))).drew) w4 [] → w4.ownsRow (w1.setCell ⟨R, s, none⟩ (.int .u64 (gv + 1))).drew.heap.size 23 1 v (L ++ [((s + 1) * 4294967296 + (gv + 1))]).length ((L ++ [((s + 1) * 4294967296 + (gv + 1))]).map (Value.int .u64)) →
      RMarksAt (w4.setCell ⟨R, 6, none⟩ v) base R (upG g s) (L ++ [((s + 1) * 4294967296 + (gv + 1))]) ∧ GrowBut w (w4.setCell ⟨R, 6, none⟩ v) [R] ∧ RowNew w (w4.setCell ⟨R, 6, none⟩ v) R := fun w1 w4 v h1 hg1 hg4 hrow => by
    have hsz := hg1.size
    have hb := (h1.bumped hs hgv).kept (GrowBut.drew _ []) (by simp) (by simp)
    refine ⟨hb.stored (by simp; omega) hg4 hrow (fun x hx => ?_) ?_ (by simp; omega), ?_, RowNew.stored hb hg4 hrow (by simp; omega)⟩
    · rcases List.mem_append.1 hx with hx | hx
      · exact h.wf x hx
      · simp at hx; subst hx; exact hwf
    · exact List.nodup_append.2 ⟨h.nodup, by simp, fun a ha b hb => by simp at hb; subst hb; exact fun e => hnew (e ▸ ha)⟩
    · exact (hg1.mono (by simp)).trans (((GrowBut.setCell w1 ⟨R, s, none⟩ _).trans ((GrowBut.drew _ _).trans (hg4.mono (by simp)))).trans (GrowBut.setCell _ ⟨R, 6, none⟩ _))
  have h6 : s = 0 ∨ s = 1 ∨ s = 2 ∨ s = 3 ∨ s = 4 ∨ s = 5 := by omega
  clear hf hF
  obtain ⟨x, hx⟩ : ∃ x : Int, ((s + 1) * 4294967296 + (gv + 1)) = x := ⟨_, rfl⟩
  rcases h6 with rfl | rfl | rfl | rfl | rfl | rfl
  · simp only [Int.cast_ofNat_Int] at *
    go_enter Try.func21, Try.ntmps21
    go_wp2_with (first
      | (go_at_call 153; refine (hPt _).mono ?_; rintro r w9 ⟨rfl, hw9⟩; rw [hw9]; clear hw9 w9)
      | (go_at_call 25; refine hO.mono ?_; rintro r w1 ⟨v, rfl, hrow1, hg1⟩; obtain ⟨q1, cq1, rfl⟩ := rowU_len hrow1; obtain ⟨hM1, c0, f0⟩ := hall w1 hg1; clear hrow1)
      | go_in)
    go_still_tail 10, (by kernel_rfl)
    change wpList _ _ _ _ _ w1.drew
    go_upto_region 7 with go_in
    have ex : ((0 : Int) + 1) * 4294967296 + (gv + 1) = 4294967296 + (gv + 1) := by omega
    have hfin1 := fun w4 v => hfin w1 w4 v hM1 hg1
    rw [ex] at hfin1
    have hb := (hM1.bumped (s := 0) (by omega) hgv).kept (GrowBut.drew _ []) (by simp) (by simp)
    obtain ⟨q, cap, hc, hrow, hcap, hcm, hf⟩ := hb.form
    have hfz6 := hb.fz 6 (by decide)
    have hlt := hb.lt
    have hLI : (L.length : Int) ≤ 900 := by omega
    generalize (w1.setCell ⟨R, 0, none⟩ (.int .u64 (gv + 1))).drew = W at hb hc hrow hf hfz6 hfin1 hlt ⊢
    clear hfin hall hM1 c0 f0 hO hPt hx hgv hnew hwf hb hrow
    rcases hf with ⟨hL0, rfl, rfl⟩ | ⟨r, rfl, hbr, hrl, hcells⟩
    · subst hL0
      have hA : ((W.alloc (.cells #[] 23)).alloc (.cells #[.int .u64 (4294967296 + (gv + 1))] 23)).heap[W.heap.size]? = some (.cells #[] 23 (0, 0)) := by
        have := heap_alloc_old (W.alloc (.cells #[] 23)) (.cells #[.int .u64 (4294967296 + (gv + 1))] 23) (k := W.heap.size) (by simp)
        exact this.trans (heap_alloc_new _ _)
      have hB : ∀ j u, ([.int .u64 (4294967296 + (gv + 1))] : List Value)[j]? = some u → ((W.alloc (.cells #[] 23)).alloc (.cells #[.int .u64 (4294967296 + (gv + 1))] 23)).cell? (Addr.add ⟨W.heap.size + 1, 0, none⟩ j) = some u := fun j u hj => by
        rcases j with _ | j <;> simp at hj
        subst hj
        simp only [Addr.add]
        go_simp
      go_wp2_with (first
        | (at_builtin; refine wpList_append_own _ rfl _ _ 29 rfl W.heap.size 23 i0 (.int .u64 0) 1 8 Try.underlying29 hi0 hz0 hz1 hz2 rfl (by decide) (.slice (some ⟨W.heap.size, 0, none⟩) 0 0) 0 [] rfl (ownsRow_empty (Nat.le_refl _) hA) ⟨W.heap.size + 1, 0, none⟩ 1 1 [.int .u64 (4294967296 + (gv + 1))] rfl rfl hB (by simp [Value.oneCell']) (by decide) (by decide) (by simp; omega) ?_; intro v45 w45 own45 g45 nil45; have G45 : GrowBut W w45 [] := ((GrowBut.alloc W (.cells #[] 23) []).trans (GrowBut.alloc _ _ _)).from (GrowBut.of_rowM g45) (fun x hx => .inr ((ownsRow_empty (e := 23) (Nat.le_refl _) hA).lt x (Option.mem_toList.1 hx)).1); obtain ⟨r5, cap5, rfl, hr5, hl5⟩ := own45.form (by omega); have c45 := G45.cell hc (by simp); have f45 := G45.frozen hlt hfz6 (by simp); clear hc hfz6; go_frame)
        | go_in)
      go_ret2
      rw [ex]
      exact ⟨rfl, hfin1 _ _ G45 (by simpa using own45)⟩
    · have hnews : ∀ j u, (L.map (Value.int .u64))[j]? = some u → (W.alloc (.cells #[] 23)).cell? (Addr.add ⟨r, 0, none⟩ j) = some u := fun j u hj => by
        have hj' : j < L.length := by have := (List.getElem?_eq_some_iff.1 hj).1; simpa using this
        have e1 : (Addr.add ⟨r, 0, none⟩ j) = ⟨r, j, none⟩ := by unfold Addr.add; split <;> simp_all
        rw [e1]
        rw [List.getElem?_map, List.getElem?_eq_getElem hj'] at hj
        have := (GrowBut.alloc W (.cells #[] 23) []).cell (hcells j hj') (by simp)
        rw [this]
        simpa using hj
      have hone : ∀ (u : Value), u ∈ L.map (Value.int .u64) → u.oneCell' = true := fun u hu => by
        obtain ⟨a, _, rfl⟩ := List.mem_map.1 hu
        rfl
      have hrA := ownsRow_empty (e := 23) (Nat.le_refl W.heap.size) (heap_alloc_new W (.cells #[] 23))
      clear hcells
      go_wp2_with (first
        | (at_builtin; refine wpList_append_own _ rfl _ _ 29 rfl W.heap.size 23 i0 (.int .u64 0) 1 8 Try.underlying29 hi0 hz0 hz1 hz2 rfl (by decide) (.slice (some ⟨W.heap.size, 0, none⟩) 0 0) 0 [] rfl hrA ⟨r, 0, none⟩ L.length cap (L.map (Value.int .u64)) rfl (by simp) hnews hone (by unfold maxLen; omega) (by omega) (by simp) ?_; intro v42 w42 own42 g42 nil42; have G42 : GrowBut W w42 [] := (GrowBut.alloc W (.cells #[] 23) []).from (GrowBut.of_rowM g42) (fun x hx => .inr (hrA.lt x (Option.mem_toList.1 hx)).1); have own42' : w42.ownsRow W.heap.size 23 1 v42 L.length (L.map (Value.int .u64)) := (by simpa using own42); have s42 := G42.size; clear own42 hnews hrA; go_frame)
        | (at_builtin; refine wpList_append_own _ rfl _ _ 29 rfl W.heap.size 23 i0 (.int .u64 0) 1 8 Try.underlying29 hi0 hz0 hz1 hz2 rfl (by decide) v42 L.length (L.map (Value.int .u64)) rfl (own42'.alloc _) ⟨w42.heap.size, 0, none⟩ 1 1 [.int .u64 (4294967296 + (gv + 1))] rfl rfl (cell_one_new _ _ _) (by simp [Value.oneCell']) (by unfold maxLen; omega) (by omega) (by simp; omega) ?_; intro v45 w45 own45 g45 nil45; have G45 : GrowBut W w45 [] := (G42.trans (GrowBut.alloc _ _ _)).from (GrowBut.of_rowM g45) (fun x hx => .inr (own42'.lt x (Option.mem_toList.1 hx)).1); obtain ⟨r5, cap5, rfl, hr5, hl5⟩ := own45.form (by omega); have c45 := G45.cell hc (by simp); have f45 := G45.frozen hlt hfz6 (by simp); clear hc hfz6; go_frame)
        | go_in)
      go_ret2
      rw [ex]
      exact ⟨rfl, hfin1 _ _ G45 (by simpa using own45)⟩
  · simp only [Int.cast_ofNat_Int] at *
    go_enter Try.func21, Try.ntmps21
    go_wp2_with (first
      | (go_at_call 153; refine (hPt _).mono ?_; rintro r w9 ⟨rfl, hw9⟩; rw [hw9]; clear hw9 w9)
      | (go_at_call 25; refine hO.mono ?_; rintro r w1 ⟨v, rfl, hrow1, hg1⟩; obtain ⟨q1, cq1, rfl⟩ := rowU_len hrow1; obtain ⟨hM1, c0, f0⟩ := hall w1 hg1; clear hrow1)
      | go_in)
    go_still_tail 10, (by kernel_rfl)
    change wpList _ _ _ _ _ w1.drew
    go_upto_region 7 with go_in
    have ex : ((1 : Int) + 1) * 4294967296 + (gv + 1) = 8589934592 + (gv + 1) := by omega
    have hfin1 := fun w4 v => hfin w1 w4 v hM1 hg1
    rw [ex] at hfin1
    have hb := (hM1.bumped (s := 1) (by omega) hgv).kept (GrowBut.drew _ []) (by simp) (by simp)
    obtain ⟨q, cap, hc, hrow, hcap, hcm, hf⟩ := hb.form
    have hfz6 := hb.fz 6 (by decide)
    have hlt := hb.lt
    have hLI : (L.length : Int) ≤ 900 := by omega
    generalize (w1.setCell ⟨R, 1, none⟩ (.int .u64 (gv + 1))).drew = W at hb hc hrow hf hfz6 hfin1 hlt ⊢
    clear hfin hall hM1 c0 f0 hO hPt hx hgv hnew hwf hb hrow
    rcases hf with ⟨hL0, rfl, rfl⟩ | ⟨r, rfl, hbr, hrl, hcells⟩
    · subst hL0
      have hA : ((W.alloc (.cells #[] 23)).alloc (.cells #[.int .u64 (8589934592 + (gv + 1))] 23)).heap[W.heap.size]? = some (.cells #[] 23 (0, 0)) := by
        have := heap_alloc_old (W.alloc (.cells #[] 23)) (.cells #[.int .u64 (8589934592 + (gv + 1))] 23) (k := W.heap.size) (by simp)
        exact this.trans (heap_alloc_new _ _)
      have hB : ∀ j u, ([.int .u64 (8589934592 + (gv + 1))] : List Value)[j]? = some u → ((W.alloc (.cells #[] 23)).alloc (.cells #[.int .u64 (8589934592 + (gv + 1))] 23)).cell? (Addr.add ⟨W.heap.size + 1, 0, none⟩ j) = some u := fun j u hj => by
        rcases j with _ | j <;> simp at hj
        subst hj
        simp only [Addr.add]
        go_simp
      go_wp2_with (first
        | (at_builtin; refine wpList_append_own _ rfl _ _ 29 rfl W.heap.size 23 i0 (.int .u64 0) 1 8 Try.underlying29 hi0 hz0 hz1 hz2 rfl (by decide) (.slice (some ⟨W.heap.size, 0, none⟩) 0 0) 0 [] rfl (ownsRow_empty (Nat.le_refl _) hA) ⟨W.heap.size + 1, 0, none⟩ 1 1 [.int .u64 (8589934592 + (gv + 1))] rfl rfl hB (by simp [Value.oneCell']) (by decide) (by decide) (by simp; omega) ?_; intro v45 w45 own45 g45 nil45; have G45 : GrowBut W w45 [] := ((GrowBut.alloc W (.cells #[] 23) []).trans (GrowBut.alloc _ _ _)).from (GrowBut.of_rowM g45) (fun x hx => .inr ((ownsRow_empty (e := 23) (Nat.le_refl _) hA).lt x (Option.mem_toList.1 hx)).1); obtain ⟨r5, cap5, rfl, hr5, hl5⟩ := own45.form (by omega); have c45 := G45.cell hc (by simp); have f45 := G45.frozen hlt hfz6 (by simp); clear hc hfz6; go_frame)
        | go_in)
      go_ret2
      rw [ex]
      exact ⟨rfl, hfin1 _ _ G45 (by simpa using own45)⟩
    · have hnews : ∀ j u, (L.map (Value.int .u64))[j]? = some u → (W.alloc (.cells #[] 23)).cell? (Addr.add ⟨r, 0, none⟩ j) = some u := fun j u hj => by
        have hj' : j < L.length := by have := (List.getElem?_eq_some_iff.1 hj).1; simpa using this
        have e1 : (Addr.add ⟨r, 0, none⟩ j) = ⟨r, j, none⟩ := by unfold Addr.add; split <;> simp_all
        rw [e1]
        rw [List.getElem?_map, List.getElem?_eq_getElem hj'] at hj
        have := (GrowBut.alloc W (.cells #[] 23) []).cell (hcells j hj') (by simp)
        rw [this]
        simpa using hj
      have hone : ∀ (u : Value), u ∈ L.map (Value.int .u64) → u.oneCell' = true := fun u hu => by
        obtain ⟨a, _, rfl⟩ := List.mem_map.1 hu
        rfl
      have hrA := ownsRow_empty (e := 23) (Nat.le_refl W.heap.size) (heap_alloc_new W (.cells #[] 23))
      clear hcells
      go_wp2_with (first
        | (at_builtin; refine wpList_append_own _ rfl _ _ 29 rfl W.heap.size 23 i0 (.int .u64 0) 1 8 Try.underlying29 hi0 hz0 hz1 hz2 rfl (by decide) (.slice (some ⟨W.heap.size, 0, none⟩) 0 0) 0 [] rfl hrA ⟨r, 0, none⟩ L.length cap (L.map (Value.int .u64)) rfl (by simp) hnews hone (by unfold maxLen; omega) (by omega) (by simp) ?_; intro v42 w42 own42 g42 nil42; have G42 : GrowBut W w42 [] := (GrowBut.alloc W (.cells #[] 23) []).from (GrowBut.of_rowM g42) (fun x hx => .inr (hrA.lt x (Option.mem_toList.1 hx)).1); have own42' : w42.ownsRow W.heap.size 23 1 v42 L.length (L.map (Value.int .u64)) := (by simpa using own42); have s42 := G42.size; clear own42 hnews hrA; go_frame)
        | (at_builtin; refine wpList_append_own _ rfl _ _ 29 rfl W.heap.size 23 i0 (.int .u64 0) 1 8 Try.underlying29 hi0 hz0 hz1 hz2 rfl (by decide) v42 L.length (L.map (Value.int .u64)) rfl (own42'.alloc _) ⟨w42.heap.size, 0, none⟩ 1 1 [.int .u64 (8589934592 + (gv + 1))] rfl rfl (cell_one_new _ _ _) (by simp [Value.oneCell']) (by unfold maxLen; omega) (by omega) (by simp; omega) ?_; intro v45 w45 own45 g45 nil45; have G45 : GrowBut W w45 [] := (G42.trans (GrowBut.alloc _ _ _)).from (GrowBut.of_rowM g45) (fun x hx => .inr (own42'.lt x (Option.mem_toList.1 hx)).1); obtain ⟨r5, cap5, rfl, hr5, hl5⟩ := own45.form (by omega); have c45 := G45.cell hc (by simp); have f45 := G45.frozen hlt hfz6 (by simp); clear hc hfz6; go_frame)
        | go_in)
      go_ret2
      rw [ex]
      exact ⟨rfl, hfin1 _ _ G45 (by simpa using own45)⟩
  · simp only [Int.cast_ofNat_Int] at *
    go_enter Try.func21, Try.ntmps21
    go_wp2_with (first
      | (go_at_call 153; refine (hPt _).mono ?_; rintro r w9 ⟨rfl, hw9⟩; rw [hw9]; clear hw9 w9)
      | (go_at_call 25; refine hO.mono ?_; rintro r w1 ⟨v, rfl, hrow1, hg1⟩; obtain ⟨q1, cq1, rfl⟩ := rowU_len hrow1; obtain ⟨hM1, c0, f0⟩ := hall w1 hg1; clear hrow1)
      | go_in)
    go_still_tail 10, (by kernel_rfl)
    change wpList _ _ _ _ _ w1.drew
    go_upto_region 7 with go_in
    have ex : ((2 : Int) + 1) * 4294967296 + (gv + 1) = 12884901888 + (gv + 1) := by omega
    have hfin1 := fun w4 v => hfin w1 w4 v hM1 hg1
    rw [ex] at hfin1
    have hb := (hM1.bumped (s := 2) (by omega) hgv).kept (GrowBut.drew _ []) (by simp) (by simp)
    obtain ⟨q, cap, hc, hrow, hcap, hcm, hf⟩ := hb.form
    have hfz6 := hb.fz 6 (by decide)
    have hlt := hb.lt
    have hLI : (L.length : Int) ≤ 900 := by omega
    generalize (w1.setCell ⟨R, 2, none⟩ (.int .u64 (gv + 1))).drew = W at hb hc hrow hf hfz6 hfin1 hlt ⊢
    clear hfin hall hM1 c0 f0 hO hPt hx hgv hnew hwf hb hrow
    rcases hf with ⟨hL0, rfl, rfl⟩ | ⟨r, rfl, hbr, hrl, hcells⟩
    · subst hL0
      have hA : ((W.alloc (.cells #[] 23)).alloc (.cells #[.int .u64 (12884901888 + (gv + 1))] 23)).heap[W.heap.size]? = some (.cells #[] 23 (0, 0)) := by
        have := heap_alloc_old (W.alloc (.cells #[] 23)) (.cells #[.int .u64 (12884901888 + (gv + 1))] 23) (k := W.heap.size) (by simp)
        exact this.trans (heap_alloc_new _ _)
      have hB : ∀ j u, ([.int .u64 (12884901888 + (gv + 1))] : List Value)[j]? = some u → ((W.alloc (.cells #[] 23)).alloc (.cells #[.int .u64 (12884901888 + (gv + 1))] 23)).cell? (Addr.add ⟨W.heap.size + 1, 0, none⟩ j) = some u := fun j u hj => by
        rcases j with _ | j <;> simp at hj
        subst hj
        simp only [Addr.add]
        go_simp
      go_wp2_with (first
        | (at_builtin; refine wpList_append_own _ rfl _ _ 29 rfl W.heap.size 23 i0 (.int .u64 0) 1 8 Try.underlying29 hi0 hz0 hz1 hz2 rfl (by decide) (.slice (some ⟨W.heap.size, 0, none⟩) 0 0) 0 [] rfl (ownsRow_empty (Nat.le_refl _) hA) ⟨W.heap.size + 1, 0, none⟩ 1 1 [.int .u64 (12884901888 + (gv + 1))] rfl rfl hB (by simp [Value.oneCell']) (by decide) (by decide) (by simp; omega) ?_; intro v45 w45 own45 g45 nil45; have G45 : GrowBut W w45 [] := ((GrowBut.alloc W (.cells #[] 23) []).trans (GrowBut.alloc _ _ _)).from (GrowBut.of_rowM g45) (fun x hx => .inr ((ownsRow_empty (e := 23) (Nat.le_refl _) hA).lt x (Option.mem_toList.1 hx)).1); obtain ⟨r5, cap5, rfl, hr5, hl5⟩ := own45.form (by omega); have c45 := G45.cell hc (by simp); have f45 := G45.frozen hlt hfz6 (by simp); clear hc hfz6; go_frame)
        | go_in)
      go_ret2
      rw [ex]
      exact ⟨rfl, hfin1 _ _ G45 (by simpa using own45)⟩
    · have hnews : ∀ j u, (L.map (Value.int .u64))[j]? = some u → (W.alloc (.cells #[] 23)).cell? (Addr.add ⟨r, 0, none⟩ j) = some u := fun j u hj => by
        have hj' : j < L.length := by have := (List.getElem?_eq_some_iff.1 hj).1; simpa using this
        have e1 : (Addr.add ⟨r, 0, none⟩ j) = ⟨r, j, none⟩ := by unfold Addr.add; split <;> simp_all
        rw [e1]
        rw [List.getElem?_map, List.getElem?_eq_getElem hj'] at hj
        have := (GrowBut.alloc W (.cells #[] 23) []).cell (hcells j hj') (by simp)
        rw [this]
        simpa using hj
      have hone : ∀ (u : Value), u ∈ L.map (Value.int .u64) → u.oneCell' = true := fun u hu => by
        obtain ⟨a, _, rfl⟩ := List.mem_map.1 hu
        rfl
      have hrA := ownsRow_empty (e := 23) (Nat.le_refl W.heap.size) (heap_alloc_new W (.cells #[] 23))
      clear hcells
      go_wp2_with (first
        | (at_builtin; refine wpList_append_own _ rfl _ _ 29 rfl W.heap.size 23 i0 (.int .u64 0) 1 8 Try.underlying29 hi0 hz0 hz1 hz2 rfl (by decide) (.slice (some ⟨W.heap.size, 0, none⟩) 0 0) 0 [] rfl hrA ⟨r, 0, none⟩ L.length cap (L.map (Value.int .u64)) rfl (by simp) hnews hone (by unfold maxLen; omega) (by omega) (by simp) ?_; intro v42 w42 own42 g42 nil42; have G42 : GrowBut W w42 [] := (GrowBut.alloc W (.cells #[] 23) []).from (GrowBut.of_rowM g42) (fun x hx => .inr (hrA.lt x (Option.mem_toList.1 hx)).1); have own42' : w42.ownsRow W.heap.size 23 1 v42 L.length (L.map (Value.int .u64)) := (by simpa using own42); have s42 := G42.size; clear own42 hnews hrA; go_frame)
        | (at_builtin; refine wpList_append_own _ rfl _ _ 29 rfl W.heap.size 23 i0 (.int .u64 0) 1 8 Try.underlying29 hi0 hz0 hz1 hz2 rfl (by decide) v42 L.length (L.map (Value.int .u64)) rfl (own42'.alloc _) ⟨w42.heap.size, 0, none⟩ 1 1 [.int .u64 (12884901888 + (gv + 1))] rfl rfl (cell_one_new _ _ _) (by simp [Value.oneCell']) (by unfold maxLen; omega) (by omega) (by simp; omega) ?_; intro v45 w45 own45 g45 nil45; have G45 : GrowBut W w45 [] := (G42.trans (GrowBut.alloc _ _ _)).from (GrowBut.of_rowM g45) (fun x hx => .inr (own42'.lt x (Option.mem_toList.1 hx)).1); obtain ⟨r5, cap5, rfl, hr5, hl5⟩ := own45.form (by omega); have c45 := G45.cell hc (by simp); have f45 := G45.frozen hlt hfz6 (by simp); clear hc hfz6; go_frame)
        | go_in)
      go_ret2
      rw [ex]
      exact ⟨rfl, hfin1 _ _ G45 (by simpa using own45)⟩
  · simp only [Int.cast_ofNat_Int] at *
    go_enter Try.func21, Try.ntmps21
    go_wp2_with (first
      | (go_at_call 153; refine (hPt _).mono ?_; rintro r w9 ⟨rfl, hw9⟩; rw [hw9]; clear hw9 w9)
      | (go_at_call 25; refine hO.mono ?_; rintro r w1 ⟨v, rfl, hrow1, hg1⟩; obtain ⟨q1, cq1, rfl⟩ := rowU_len hrow1; obtain ⟨hM1, c0, f0⟩ := hall w1 hg1; clear hrow1)
      | go_in)
    go_still_tail 10, (by kernel_rfl)
    change wpList _ _ _ _ _ w1.drew
    go_upto_region 7 with go_in
    have ex : ((3 : Int) + 1) * 4294967296 + (gv + 1) = 17179869184 + (gv + 1) := by omega
    have hfin1 := fun w4 v => hfin w1 w4 v hM1 hg1
    rw [ex] at hfin1
    have hb := (hM1.bumped (s := 3) (by omega) hgv).kept (GrowBut.drew _ []) (by simp) (by simp)
    obtain ⟨q, cap, hc, hrow, hcap, hcm, hf⟩ := hb.form
    have hfz6 := hb.fz 6 (by decide)
    have hlt := hb.lt
    have hLI : (L.length : Int) ≤ 900 := by omega
    generalize (w1.setCell ⟨R, 3, none⟩ (.int .u64 (gv + 1))).drew = W at hb hc hrow hf hfz6 hfin1 hlt ⊢
    clear hfin hall hM1 c0 f0 hO hPt hx hgv hnew hwf hb hrow
    rcases hf with ⟨hL0, rfl, rfl⟩ | ⟨r, rfl, hbr, hrl, hcells⟩
    · subst hL0
      have hA : ((W.alloc (.cells #[] 23)).alloc (.cells #[.int .u64 (17179869184 + (gv + 1))] 23)).heap[W.heap.size]? = some (.cells #[] 23 (0, 0)) := by
        have := heap_alloc_old (W.alloc (.cells #[] 23)) (.cells #[.int .u64 (17179869184 + (gv + 1))] 23) (k := W.heap.size) (by simp)
        exact this.trans (heap_alloc_new _ _)
      have hB : ∀ j u, ([.int .u64 (17179869184 + (gv + 1))] : List Value)[j]? = some u → ((W.alloc (.cells #[] 23)).alloc (.cells #[.int .u64 (17179869184 + (gv + 1))] 23)).cell? (Addr.add ⟨W.heap.size + 1, 0, none⟩ j) = some u := fun j u hj => by
        rcases j with _ | j <;> simp at hj
        subst hj
        simp only [Addr.add]
        go_simp
      go_wp2_with (first
        | (at_builtin; refine wpList_append_own _ rfl _ _ 29 rfl W.heap.size 23 i0 (.int .u64 0) 1 8 Try.underlying29 hi0 hz0 hz1 hz2 rfl (by decide) (.slice (some ⟨W.heap.size, 0, none⟩) 0 0) 0 [] rfl (ownsRow_empty (Nat.le_refl _) hA) ⟨W.heap.size + 1, 0, none⟩ 1 1 [.int .u64 (17179869184 + (gv + 1))] rfl rfl hB (by simp [Value.oneCell']) (by decide) (by decide) (by simp; omega) ?_; intro v45 w45 own45 g45 nil45; have G45 : GrowBut W w45 [] := ((GrowBut.alloc W (.cells #[] 23) []).trans (GrowBut.alloc _ _ _)).from (GrowBut.of_rowM g45) (fun x hx => .inr ((ownsRow_empty (e := 23) (Nat.le_refl _) hA).lt x (Option.mem_toList.1 hx)).1); obtain ⟨r5, cap5, rfl, hr5, hl5⟩ := own45.form (by omega); have c45 := G45.cell hc (by simp); have f45 := G45.frozen hlt hfz6 (by simp); clear hc hfz6; go_frame)
        | go_in)
      go_ret2
      rw [ex]
      exact ⟨rfl, hfin1 _ _ G45 (by simpa using own45)⟩
    · have hnews : ∀ j u, (L.map (Value.int .u64))[j]? = some u → (W.alloc (.cells #[] 23)).cell? (Addr.add ⟨r, 0, none⟩ j) = some u := fun j u hj => by
        have hj' : j < L.length := by have := (List.getElem?_eq_some_iff.1 hj).1; simpa using this
        have e1 : (Addr.add ⟨r, 0, none⟩ j) = ⟨r, j, none⟩ := by unfold Addr.add; split <;> simp_all
        rw [e1]
        rw [List.getElem?_map, List.getElem?_eq_getElem hj'] at hj
        have := (GrowBut.alloc W (.cells #[] 23) []).cell (hcells j hj') (by simp)
        rw [this]
        simpa using hj
      have hone : ∀ (u : Value), u ∈ L.map (Value.int .u64) → u.oneCell' = true := fun u hu => by
        obtain ⟨a, _, rfl⟩ := List.mem_map.1 hu
        rfl
      have hrA := ownsRow_empty (e := 23) (Nat.le_refl W.heap.size) (heap_alloc_new W (.cells #[] 23))
      clear hcells
      go_wp2_with (first
        | (at_builtin; refine wpList_append_own _ rfl _ _ 29 rfl W.heap.size 23 i0 (.int .u64 0) 1 8 Try.underlying29 hi0 hz0 hz1 hz2 rfl (by decide) (.slice (some ⟨W.heap.size, 0, none⟩) 0 0) 0 [] rfl hrA ⟨r, 0, none⟩ L.length cap (L.map (Value.int .u64)) rfl (by simp) hnews hone (by unfold maxLen; omega) (by omega) (by simp) ?_; intro v42 w42 own42 g42 nil42; have G42 : GrowBut W w42 [] := (GrowBut.alloc W (.cells #[] 23) []).from (GrowBut.of_rowM g42) (fun x hx => .inr (hrA.lt x (Option.mem_toList.1 hx)).1); have own42' : w42.ownsRow W.heap.size 23 1 v42 L.length (L.map (Value.int .u64)) := (by simpa using own42); have s42 := G42.size; clear own42 hnews hrA; go_frame)
        | (at_builtin; refine wpList_append_own _ rfl _ _ 29 rfl W.heap.size 23 i0 (.int .u64 0) 1 8 Try.underlying29 hi0 hz0 hz1 hz2 rfl (by decide) v42 L.length (L.map (Value.int .u64)) rfl (own42'.alloc _) ⟨w42.heap.size, 0, none⟩ 1 1 [.int .u64 (17179869184 + (gv + 1))] rfl rfl (cell_one_new _ _ _) (by simp [Value.oneCell']) (by unfold maxLen; omega) (by omega) (by simp; omega) ?_; intro v45 w45 own45 g45 nil45; have G45 : GrowBut W w45 [] := (G42.trans (GrowBut.alloc _ _ _)).from (GrowBut.of_rowM g45) (fun x hx => .inr (own42'.lt x (Option.mem_toList.1 hx)).1); obtain ⟨r5, cap5, rfl, hr5, hl5⟩ := own45.form (by omega); have c45 := G45.cell hc (by simp); have f45 := G45.frozen hlt hfz6 (by simp); clear hc hfz6; go_frame)
        | go_in)
      go_ret2
      rw [ex]
      exact ⟨rfl, hfin1 _ _ G45 (by simpa using own45)⟩
  · simp only [Int.cast_ofNat_Int] at *
    go_enter Try.func21, Try.ntmps21
    go_wp2_with (first
      | (go_at_call 153; refine (hPt _).mono ?_; rintro r w9 ⟨rfl, hw9⟩; rw [hw9]; clear hw9 w9)
      | (go_at_call 25; refine hO.mono ?_; rintro r w1 ⟨v, rfl, hrow1, hg1⟩; obtain ⟨q1, cq1, rfl⟩ := rowU_len hrow1; obtain ⟨hM1, c0, f0⟩ := hall w1 hg1; clear hrow1)
      | go_in)
    go_still_tail 10, (by kernel_rfl)
    change wpList _ _ _ _ _ w1.drew
    go_upto_region 7 with go_in
    have ex : ((4 : Int) + 1) * 4294967296 + (gv + 1) = 21474836480 + (gv + 1) := by omega
    have hfin1 := fun w4 v => hfin w1 w4 v hM1 hg1
    rw [ex] at hfin1
    have hb := (hM1.bumped (s := 4) (by omega) hgv).kept (GrowBut.drew _ []) (by simp) (by simp)
    obtain ⟨q, cap, hc, hrow, hcap, hcm, hf⟩ := hb.form
    have hfz6 := hb.fz 6 (by decide)
    have hlt := hb.lt
    have hLI : (L.length : Int) ≤ 900 := by omega
    generalize (w1.setCell ⟨R, 4, none⟩ (.int .u64 (gv + 1))).drew = W at hb hc hrow hf hfz6 hfin1 hlt ⊢
    clear hfin hall hM1 c0 f0 hO hPt hx hgv hnew hwf hb hrow
    rcases hf with ⟨hL0, rfl, rfl⟩ | ⟨r, rfl, hbr, hrl, hcells⟩
    · subst hL0
      have hA : ((W.alloc (.cells #[] 23)).alloc (.cells #[.int .u64 (21474836480 + (gv + 1))] 23)).heap[W.heap.size]? = some (.cells #[] 23 (0, 0)) := by
        have := heap_alloc_old (W.alloc (.cells #[] 23)) (.cells #[.int .u64 (21474836480 + (gv + 1))] 23) (k := W.heap.size) (by simp)
        exact this.trans (heap_alloc_new _ _)
      have hB : ∀ j u, ([.int .u64 (21474836480 + (gv + 1))] : List Value)[j]? = some u → ((W.alloc (.cells #[] 23)).alloc (.cells #[.int .u64 (21474836480 + (gv + 1))] 23)).cell? (Addr.add ⟨W.heap.size + 1, 0, none⟩ j) = some u := fun j u hj => by
        rcases j with _ | j <;> simp at hj
        subst hj
        simp only [Addr.add]
        go_simp
      go_wp2_with (first
        | (at_builtin; refine wpList_append_own _ rfl _ _ 29 rfl W.heap.size 23 i0 (.int .u64 0) 1 8 Try.underlying29 hi0 hz0 hz1 hz2 rfl (by decide) (.slice (some ⟨W.heap.size, 0, none⟩) 0 0) 0 [] rfl (ownsRow_empty (Nat.le_refl _) hA) ⟨W.heap.size + 1, 0, none⟩ 1 1 [.int .u64 (21474836480 + (gv + 1))] rfl rfl hB (by simp [Value.oneCell']) (by decide) (by decide) (by simp; omega) ?_; intro v45 w45 own45 g45 nil45; have G45 : GrowBut W w45 [] := ((GrowBut.alloc W (.cells #[] 23) []).trans (GrowBut.alloc _ _ _)).from (GrowBut.of_rowM g45) (fun x hx => .inr ((ownsRow_empty (e := 23) (Nat.le_refl _) hA).lt x (Option.mem_toList.1 hx)).1); obtain ⟨r5, cap5, rfl, hr5, hl5⟩ := own45.form (by omega); have c45 := G45.cell hc (by simp); have f45 := G45.frozen hlt hfz6 (by simp); clear hc hfz6; go_frame)
        | go_in)
      go_ret2
      rw [ex]
      exact ⟨rfl, hfin1 _ _ G45 (by simpa using own45)⟩
    · have hnews : ∀ j u, (L.map (Value.int .u64))[j]? = some u → (W.alloc (.cells #[] 23)).cell? (Addr.add ⟨r, 0, none⟩ j) = some u := fun j u hj => by
        have hj' : j < L.length := by have := (List.getElem?_eq_some_iff.1 hj).1; simpa using this
        have e1 : (Addr.add ⟨r, 0, none⟩ j) = ⟨r, j, none⟩ := by unfold Addr.add; split <;> simp_all
        rw [e1]
        rw [List.getElem?_map, List.getElem?_eq_getElem hj'] at hj
        have := (GrowBut.alloc W (.cells #[] 23) []).cell (hcells j hj') (by simp)
        rw [this]
        simpa using hj
      have hone : ∀ (u : Value), u ∈ L.map (Value.int .u64) → u.oneCell' = true := fun u hu => by
        obtain ⟨a, _, rfl⟩ := List.mem_map.1 hu
        rfl
      have hrA := ownsRow_empty (e := 23) (Nat.le_refl W.heap.size) (heap_alloc_new W (.cells #[] 23))
      clear hcells
      go_wp2_with (first
        | (at_builtin; refine wpList_append_own _ rfl _ _ 29 rfl W.heap.size 23 i0 (.int .u64 0) 1 8 Try.underlying29 hi0 hz0 hz1 hz2 rfl (by decide) (.slice (some ⟨W.heap.size, 0, none⟩) 0 0) 0 [] rfl hrA ⟨r, 0, none⟩ L.length cap (L.map (Value.int .u64)) rfl (by simp) hnews hone (by unfold maxLen; omega) (by omega) (by simp) ?_; intro v42 w42 own42 g42 nil42; have G42 : GrowBut W w42 [] := (GrowBut.alloc W (.cells #[] 23) []).from (GrowBut.of_rowM g42) (fun x hx => .inr (hrA.lt x (Option.mem_toList.1 hx)).1); have own42' : w42.ownsRow W.heap.size 23 1 v42 L.length (L.map (Value.int .u64)) := (by simpa using own42); have s42 := G42.size; clear own42 hnews hrA; go_frame)
        | (at_builtin; refine wpList_append_own _ rfl _ _ 29 rfl W.heap.size 23 i0 (.int .u64 0) 1 8 Try.underlying29 hi0 hz0 hz1 hz2 rfl (by decide) v42 L.length (L.map (Value.int .u64)) rfl (own42'.alloc _) ⟨w42.heap.size, 0, none⟩ 1 1 [.int .u64 (21474836480 + (gv + 1))] rfl rfl (cell_one_new _ _ _) (by simp [Value.oneCell']) (by unfold maxLen; omega) (by omega) (by simp; omega) ?_; intro v45 w45 own45 g45 nil45; have G45 : GrowBut W w45 [] := (G42.trans (GrowBut.alloc _ _ _)).from (GrowBut.of_rowM g45) (fun x hx => .inr (own42'.lt x (Option.mem_toList.1 hx)).1); obtain ⟨r5, cap5, rfl, hr5, hl5⟩ := own45.form (by omega); have c45 := G45.cell hc (by simp); have f45 := G45.frozen hlt hfz6 (by simp); clear hc hfz6; go_frame)
        | go_in)
      go_ret2
      rw [ex]
      exact ⟨rfl, hfin1 _ _ G45 (by simpa using own45)⟩
  · simp only [Int.cast_ofNat_Int] at *
    go_enter Try.func21, Try.ntmps21
    go_wp2_with (first
      | (go_at_call 153; refine (hPt _).mono ?_; rintro r w9 ⟨rfl, hw9⟩; rw [hw9]; clear hw9 w9)
      | (go_at_call 25; refine hO.mono ?_; rintro r w1 ⟨v, rfl, hrow1, hg1⟩; obtain ⟨q1, cq1, rfl⟩ := rowU_len hrow1; obtain ⟨hM1, c0, f0⟩ := hall w1 hg1; clear hrow1)
      | go_in)
    go_still_tail 10, (by kernel_rfl)
    change wpList _ _ _ _ _ w1.drew
    go_upto_region 7 with go_in
    have ex : ((5 : Int) + 1) * 4294967296 + (gv + 1) = 25769803776 + (gv + 1) := by omega
    have hfin1 := fun w4 v => hfin w1 w4 v hM1 hg1
    rw [ex] at hfin1
    have hb := (hM1.bumped (s := 5) (by omega) hgv).kept (GrowBut.drew _ []) (by simp) (by simp)
    obtain ⟨q, cap, hc, hrow, hcap, hcm, hf⟩ := hb.form
    have hfz6 := hb.fz 6 (by decide)
    have hlt := hb.lt
    have hLI : (L.length : Int) ≤ 900 := by omega
    generalize (w1.setCell ⟨R, 5, none⟩ (.int .u64 (gv + 1))).drew = W at hb hc hrow hf hfz6 hfin1 hlt ⊢
    clear hfin hall hM1 c0 f0 hO hPt hx hgv hnew hwf hb hrow
    rcases hf with ⟨hL0, rfl, rfl⟩ | ⟨r, rfl, hbr, hrl, hcells⟩
    · subst hL0
      have hA : ((W.alloc (.cells #[] 23)).alloc (.cells #[.int .u64 (25769803776 + (gv + 1))] 23)).heap[W.heap.size]? = some (.cells #[] 23 (0, 0)) := by
        have := heap_alloc_old (W.alloc (.cells #[] 23)) (.cells #[.int .u64 (25769803776 + (gv + 1))] 23) (k := W.heap.size) (by simp)
        exact this.trans (heap_alloc_new _ _)
      have hB : ∀ j u, ([.int .u64 (25769803776 + (gv + 1))] : List Value)[j]? = some u → ((W.alloc (.cells #[] 23)).alloc (.cells #[.int .u64 (25769803776 + (gv + 1))] 23)).cell? (Addr.add ⟨W.heap.size + 1, 0, none⟩ j) = some u := fun j u hj => by
        rcases j with _ | j <;> simp at hj
        subst hj
        simp only [Addr.add]
        go_simp
      go_wp2_with (first
        | (at_builtin; refine wpList_append_own _ rfl _ _ 29 rfl W.heap.size 23 i0 (.int .u64 0) 1 8 Try.underlying29 hi0 hz0 hz1 hz2 rfl (by decide) (.slice (some ⟨W.heap.size, 0, none⟩) 0 0) 0 [] rfl (ownsRow_empty (Nat.le_refl _) hA) ⟨W.heap.size + 1, 0, none⟩ 1 1 [.int .u64 (25769803776 + (gv + 1))] rfl rfl hB (by simp [Value.oneCell']) (by decide) (by decide) (by simp; omega) ?_; intro v45 w45 own45 g45 nil45; have G45 : GrowBut W w45 [] := ((GrowBut.alloc W (.cells #[] 23) []).trans (GrowBut.alloc _ _ _)).from (GrowBut.of_rowM g45) (fun x hx => .inr ((ownsRow_empty (e := 23) (Nat.le_refl _) hA).lt x (Option.mem_toList.1 hx)).1); obtain ⟨r5, cap5, rfl, hr5, hl5⟩ := own45.form (by omega); have c45 := G45.cell hc (by simp); have f45 := G45.frozen hlt hfz6 (by simp); clear hc hfz6; go_frame)
        | go_in)
      go_ret2
      rw [ex]
      exact ⟨rfl, hfin1 _ _ G45 (by simpa using own45)⟩
    · have hnews : ∀ j u, (L.map (Value.int .u64))[j]? = some u → (W.alloc (.cells #[] 23)).cell? (Addr.add ⟨r, 0, none⟩ j) = some u := fun j u hj => by
        have hj' : j < L.length := by have := (List.getElem?_eq_some_iff.1 hj).1; simpa using this
        have e1 : (Addr.add ⟨r, 0, none⟩ j) = ⟨r, j, none⟩ := by unfold Addr.add; split <;> simp_all
        rw [e1]
        rw [List.getElem?_map, List.getElem?_eq_getElem hj'] at hj
        have := (GrowBut.alloc W (.cells #[] 23) []).cell (hcells j hj') (by simp)
        rw [this]
        simpa using hj
      have hone : ∀ (u : Value), u ∈ L.map (Value.int .u64) → u.oneCell' = true := fun u hu => by
        obtain ⟨a, _, rfl⟩ := List.mem_map.1 hu
        rfl
      have hrA := ownsRow_empty (e := 23) (Nat.le_refl W.heap.size) (heap_alloc_new W (.cells #[] 23))
      clear hcells
      go_wp2_with (first
        | (at_builtin; refine wpList_append_own _ rfl _ _ 29 rfl W.heap.size 23 i0 (.int .u64 0) 1 8 Try.underlying29 hi0 hz0 hz1 hz2 rfl (by decide) (.slice (some ⟨W.heap.size, 0, none⟩) 0 0) 0 [] rfl hrA ⟨r, 0, none⟩ L.length cap (L.map (Value.int .u64)) rfl (by simp) hnews hone (by unfold maxLen; omega) (by omega) (by simp) ?_; intro v42 w42 own42 g42 nil42; have G42 : GrowBut W w42 [] := (GrowBut.alloc W (.cells #[] 23) []).from (GrowBut.of_rowM g42) (fun x hx => .inr (hrA.lt x (Option.mem_toList.1 hx)).1); have own42' : w42.ownsRow W.heap.size 23 1 v42 L.length (L.map (Value.int .u64)) := (by simpa using own42); have s42 := G42.size; clear own42 hnews hrA; go_frame)
        | (at_builtin; refine wpList_append_own _ rfl _ _ 29 rfl W.heap.size 23 i0 (.int .u64 0) 1 8 Try.underlying29 hi0 hz0 hz1 hz2 rfl (by decide) v42 L.length (L.map (Value.int .u64)) rfl (own42'.alloc _) ⟨w42.heap.size, 0, none⟩ 1 1 [.int .u64 (25769803776 + (gv + 1))] rfl rfl (cell_one_new _ _ _) (by simp [Value.oneCell']) (by unfold maxLen; omega) (by omega) (by simp; omega) ?_; intro v45 w45 own45 g45 nil45; have G45 : GrowBut W w45 [] := (G42.trans (GrowBut.alloc _ _ _)).from (GrowBut.of_rowM g45) (fun x hx => .inr (own42'.lt x (Option.mem_toList.1 hx)).1); obtain ⟨r5, cap5, rfl, hr5, hl5⟩ := own45.form (by omega); have c45 := G45.cell hc (by simp); have f45 := G45.frozen hlt hfz6 (by simp); clear hc hfz6; go_frame)
        | go_in)
      go_ret2
      rw [ex]
      exact ⟨rfl, hfin1 _ _ G45 (by simpa using own45)⟩

end Go.Proofs.Ytlgfopfibopcnaa
