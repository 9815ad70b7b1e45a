/-
  Package mark: the contracts of its methods.
-/
import Derived.Test.YtlgfopfibopcnaaMarkL
import Derived.Test.YtlgfopfibopcnaaGrow
namespace Go.Proofs.Ytlgfopfibopcnaa
open Go Go.RowKit Go.Maps Go.Am
set_option linter.unusedVariables false

theorem boolZ (w : World) : (zeroValue 4).run Try.prog w = .ok (.bool false) w := by kernel_rfl

theorem plainElem_bool_inv {H : Type} {v : Value} {z : DataW H × List MemPlace} (h : plainElem Try.prog 4 v = some z) : ∃ x, v = .bool x ∧ z = (.lit (.bool x), []) := by
  cases v <;> simp [plainElem, Try.underlying4] at h
  exact ⟨_, rfl, h.symm⟩

theorem keyU {x : Int} (h : (Lit.int .u64 x).wf = true) : keyOf Try.prog 23 (.int .u64 x) = some (.int .u64 x) := keyOf_int_mk Try.underlying23 h

/-- Marks are at B: given to each; those that are there are L. -/
structure MarksAt (w : World) (B b n : Nat) (g : Nat → Int) (L : List Int) : Prop where
  c : ∀ i, i < 6 → w.cell? ⟨B, i, none⟩ = some (.int .u64 (g i))
  fz : ∀ i, i < 6 → w.frozen? ⟨B, i, none⟩ = false
  ptr : w.cell? ⟨B, 6, none⟩ = some (.map (some b))
  lt : B < w.heap.size
  ne : B ≠ b
  own : ∃ D : DataW Unit, w.ownsMap Try.prog 23 (plainElem Try.prog 4) b n D ∧ Marked D L
  of : ∀ x ∈ L, MarkOf g x
  few : ∀ s, (ofWho L s).length ≤ 4
  gb : ∀ i, 0 ≤ g i ∧ g i ≤ n

theorem MarksAt.kept {w w' : World} {B b n : Nat} {g : Nat → Int} {L : List Int} {l : List Nat} (h : MarksAt w B b n g L) (hg : GrowBut w w' l) (h1 : B ∉ l) (h2 : b ∉ l) : MarksAt w' B b n g L := by
  obtain ⟨D, hown, hD⟩ := h.own
  exact ⟨fun i hi => hg.cell (h.c i hi) h1, fun i hi => hg.frozen h.lt (h.fz i hi) h1, hg.cell h.ptr h1, Nat.lt_of_lt_of_le h.lt hg.size, h.ne, ⟨D, hg.map hown h2, hD⟩, h.of, h.few, h.gb⟩

theorem MarksAt.blt {w : World} {B b n : Nat} {g : Nat → Int} {L : List Int} (h : MarksAt w B b n g L) : b < w.heap.size := by
  obtain ⟨D, hown, hD⟩ := h.own
  exact hown.lt

/-- How many are there, as the row's length. -/
def OfAns (w w' : World) (F : Nat) (v : Value) : Prop := (F = 0 ∧ v = .slice none 0 0) ∨ ∃ g cap, v = .slice (some ⟨g, 0, none⟩) F cap ∧ 0 < F ∧ F ≤ cap ∧ w.heap.size ≤ g ∧ g < w'.heap.size

theorem ofM_calls (B b n : Nat) (g : Nat → Int) (L : List Int) (s : Int) (w : World) (h : MarksAt w B b n g L) (hn : n ≤ 100000) :
    Calls Try.prog 24 #[.pointer (some ⟨B, 0, none⟩), .int .i64 s] w fun e w' => ∃ v, e = .returned v ∧ OfAns w w' (ofWho L s).length v ∧ GrowBut w w' [] := by
  obtain ⟨D, hown, hD⟩ := h.own
  have hc := hD.count hown s
  have := of_calls B 0 b n s D w h.ptr hown (by have := hown.size_le; omega) (by rw [hc]; exact h.few s)
  rw [hc] at this
  exact this.mono fun e w' ⟨v, he, ha, hb⟩ => ⟨v, he, ha, .of_below hb⟩

set_option maxRecDepth 100000 in
set_option maxHeartbeats 2000000 in
theorem isM_calls (B b n : Nat) (g : Nat → Int) (L : List Int) (x : Int) (w : World) (h : MarksAt w B b n g L) (hx : (Lit.int .u64 x).wf = true) :
    Calls Try.prog 26 #[.pointer (some ⟨B, 0, none⟩), .int .u64 x] w fun e w' => e = .returned (.bool (decide (x ∈ L))) ∧ w' = w := by
  obtain ⟨D, hown, hD⟩ := h.own
  have hptr := h.ptr
  obtain ⟨v, ps, hrun, hv⟩ := hown.lookup lawU Try.underlying175 (boolZ w) (plainElem_bool Try.underlying4 false) (keyU hx)
  rw [hD.atKey x] at hv
  obtain ⟨y, rfl, hy⟩ := plainElem_bool_inv hv
  obtain rfl : decide (x ∈ L) = y := by cases hy; rfl
  generalize decide (x ∈ L) = ans at hrun ⊢
  go_enter Try.func26, Try.ntmps26
  go_wp2_with go_in
  all_goals (go_ret; exact ⟨rfl, rfl⟩)

set_option maxRecDepth 100000 in
set_option maxHeartbeats 2000000 in
theorem dropM_calls (B b n : Nat) (g : Nat → Int) (L : List Int) (x : Int) (w : World) (h : MarksAt w B b n g L) (hx : (Lit.int .u64 x).wf = true) :
    Calls Try.prog 22 #[.pointer (some ⟨B, 0, none⟩), .int .u64 x] w fun e w' => e = .returned (.bool (decide (x ∈ L))) ∧ MarksAt w' B b n g (L.erase x) ∧ GrowBut w w' [b] := by
  obtain ⟨D, hown, hD⟩ := h.own
  have hptr := h.ptr
  have hI := isM_calls B b n g L x w h hx
  by_cases hm : x ∈ L
  · rw [decide_eq_true hm] at hI ⊢
    go_enter Try.func22, Try.ntmps22
    go_wp2_with (first
      | (go_at_call 26; refine hI.mono ?_; rintro e w1 ⟨rfl, rfl⟩)
      | (at_delete; refine wpList_delete_own _ rfl _ _ 175 23 rfl 4 lawU Try.underlying175 _ b n D rfl hown _ _ rfl (keyU hx) ?_; intro w2 hown2 hturn2)
      | go_in)
    go_ret
    have hg2 := GrowBut.of_some hturn2.grown
    have hne : B ∉ [b] := by simpa using h.ne
    exact ⟨rfl, ⟨fun i hi => hg2.cell (h.c i hi) hne, fun i hi => hg2.frozen h.lt (h.fz i hi) hne, hg2.cell h.ptr hne, Nat.lt_of_lt_of_le h.lt hg2.size, h.ne, ⟨_, hown2, hD.del x⟩,
      fun y hy => h.of y (List.mem_of_mem_erase hy), fun s => Nat.le_trans (ofWho_erase_le L x s) (h.few s), h.gb⟩, hg2⟩
  · rw [decide_eq_false hm] at hI ⊢
    rw [List.erase_of_not_mem hm]
    go_enter Try.func22, Try.ntmps22
    go_wp2_with (first
      | (go_at_call 26; refine hI.mono ?_; rintro e w1 ⟨rfl, rfl⟩)
      | go_in)
    go_ret
    exact ⟨rfl, h, .refl _ _⟩

set_option maxRecDepth 100000 in
set_option maxHeartbeats 2000000 in
theorem newM_calls (w : World) : Calls Try.prog 19 #[] w fun e w' => ∃ B b, e = .returned (.pointer (some ⟨B, 0, none⟩)) ∧ MarksAt w' B b 0 (fun _ => 0) [] ∧ w.heap.size ≤ B ∧ w.heap.size ≤ b ∧ GrowBut w w' [] := by
  go_enter Try.func19, Try.ntmps19
  have hmm := @run_makeMap Try.prog
  go_wp2_with go_in
  clear hmm
  go_ret
  have hg : GrowBut w ((w.alloc (.map #[] 0)).alloc (.cells #[.int .u64 0, .int .u64 0, .int .u64 0, .int .u64 0, .int .u64 0, .int .u64 0, .map (some w.heap.size)] 177)) [] := (GrowBut.alloc w _ []).trans (GrowBut.alloc _ _ [])
  refine ⟨_, _, rfl, ⟨fun i hi => ?_, fun i hi => ?_, by go_simp, by simp, by simp, ⟨.map [], (World.ownsMap_made w Try.prog 23 _).alloc _, Marked.empty⟩, fun x hx => (by cases hx), fun s => (by simp [ofWho]), fun i => (by simp)⟩, by simp, Nat.le_refl _, hg⟩
  · have : i = 0 ∨ i = 1 ∨ i = 2 ∨ i = 3 ∨ i = 4 ∨ i = 5 := by omega
    rcases this with rfl | rfl | rfl | rfl | rfl | rfl <;> go_simp
  · have : i = 0 ∨ i = 1 ∨ i = 2 ∨ i = 3 ∨ i = 4 ∨ i = 5 := by omega
    rcases this with rfl | rfl | rfl | rfl | rfl | rfl <;> go_simp

set_option maxRecDepth 100000 in
set_option maxHeartbeats 4000000 in
theorem giveM_full (B b n : Nat) (g : Nat → Int) (L : List Int) (s : Nat) (w : World) (h : MarksAt w B b n g L) (hs : s < 6) (hn : n ≤ 1000) (hf : (ofWho L s).length = 4) :
    Calls Try.prog 20 #[.pointer (some ⟨B, 0, none⟩), .int .i64 s] w fun e w' => e = .returned (.tuple #[.int .u64 0, .int .i64 (-3)]) ∧ GrowBut w w' [] := by
  have hO := ofM_calls B b n g L s w h (by omega)
  rw [hf] at hO
  have hs0 : ¬ (s : Int) < 0 := by omega
  have hs6 : ¬ (s : Int) ≥ 6 := by omega
  go_enter Try.func20, Try.ntmps20
  go_wp2_with (first
    | (go_at_call 24; refine hO.mono ?_; rintro e w1 ⟨v, rfl, ⟨h0, _⟩ | ⟨gr, cap, rfl, hF, hcap, hlo, hhi⟩, hg1⟩; first | (exfalso; omega) | skip)
    | go_in)
  go_ret2
  exact ⟨rfl, hg1⟩

theorem cell_setCell_same {w : World} {B i : Nat} {x v : Value} (h : w.cell? ⟨B, i, none⟩ = some x) : (w.setCell ⟨B, i, none⟩ v).cell? ⟨B, i, none⟩ = some v := by
  go_simp

theorem cell_setCell_off {w : World} {B i j : Nat} {x v : Value} (h : w.cell? ⟨B, i, none⟩ = some x) (hne : i ≠ j) : (w.setCell ⟨B, j, none⟩ v).cell? ⟨B, i, none⟩ = some x := by
  have hne' : ¬ j = i := fun e => hne e.symm
  go_simp

theorem frozen_setCell {w : World} {B i j : Nat} {v : Value} : (w.setCell ⟨B, j, none⟩ v).frozen? ⟨B, i, none⟩ = w.frozen? ⟨B, i, none⟩ := by
  go_simp

theorem MarksAt.given {w1 w2 : World} {B b n : Nat} {g : Nat → Int} {L : List Int} (h : MarksAt w1 B b n g L) {s : Nat} (hs : s < 6) (hg1 : ∀ i, g i < 1000000) {gv : Int} (hgv : g s = gv) {D : DataW Unit} (hD : Marked D L)
    (hown : w2.ownsMap Try.prog 23 (plainElem Try.prog 4) b (n + 1) (D.put (.int .u64 ((s + 1) * 4294967296 + (gv + 1))) (.lit (.bool true)))) (hg : ((w1.setCell ⟨B, s, none⟩ (.int .u64 (gv + 1))).drew).grownBy w2 (some b))
    (hm : IsMap D) (hf : (ofWho L s).length ≠ 4) : MarksAt w2 B b (n + 1) (upG g s) (((s + 1) * 4294967296 + (gv + 1)) :: L) ∧ GrowBut w1 w2 [B, b] := by
  subst hgv
  have h0 := (h.gb s).1
  have hnew : ((s + 1) * 4294967296 + (g s + 1)) ∉ L := fun hx => (h.of _ hx).ne hg1 h0 rfl
  have hb : (some B : Option Nat) ≠ some b := by simpa using h.ne
  have hG : GrowBut w1 w2 [B, b] := ((GrowBut.setCell w1 ⟨B, s, none⟩ (.int .u64 (g s + 1))).mono (l' := [B, b]) (by simp)).trans ((GrowBut.drew _ _).trans ((GrowBut.of_some hg).mono (by simp)))
  refine ⟨⟨fun i hi => ?_, fun i hi => ?_, ?_, Nat.lt_of_lt_of_le h.lt hG.size, h.ne, ⟨_, hown, hD.put hm hnew⟩, fun x hx => ?_, fun t => ?_, fun i => ?_⟩, hG⟩
  · refine hg.cell (w := (w1.setCell ⟨B, s, none⟩ (.int .u64 (g s + 1))).drew) ?_ hb
    show (w1.setCell ⟨B, s, none⟩ (.int .u64 (g s + 1))).cell? _ = _
    by_cases e : i = s
    · subst e
      simpa [upG] using cell_setCell_same (v := .int .u64 (g i + 1)) (h.c i hi)
    · simpa [upG, e] using cell_setCell_off (v := .int .u64 (g s + 1)) (h.c i hi) e
  · rw [World.frozen?_of_block (hg.block B (by simpa using h.lt) hb)]
    show (w1.setCell ⟨B, s, none⟩ (.int .u64 (g s + 1))).frozen? _ = _
    rw [frozen_setCell]
    exact h.fz i hi
  · exact hg.cell (w := (w1.setCell ⟨B, s, none⟩ (.int .u64 (g s + 1))).drew) (cell_setCell_off h.ptr (by omega)) hb
  · rcases List.mem_cons.1 hx with rfl | hx
    · exact MarkOf.new hs h0
    · exact (h.of x hx).up s
  · rw [ofWho_cons, whose_new (by omega) (by have := hg1 s; omega)]
    have := h.few t
    split
    · rename_i e
      subst e
      simp only [List.length_cons]
      omega
    · exact this
  · have := h.gb i
    have := h.gb s
    unfold upG
    split <;> omega

set_option maxRecDepth 100000 in
set_option maxHeartbeats 4000000 in
theorem giveM_more (B b n : Nat) (g : Nat → Int) (L : List Int) (s : Nat) (w : World) (h : MarksAt w B b n g L) (hs : s < 6) (hn : n ≤ 1000) (hf : (ofWho L s).length ≠ 4) :
    Calls Try.prog 20 #[.pointer (some ⟨B, 0, none⟩), .int .i64 s] w fun e w' => e = .returned (.tuple #[.int .u64 ((s + 1) * 4294967296 + (g s + 1)), .int .i64 0]) ∧
      MarksAt w' B b (n + 1) (upG g s) (((s + 1) * 4294967296 + (g s + 1)) :: L) ∧ GrowBut w w' [B, b] := by
  have hO := ofM_calls B b n g L s w h (by omega)
  have hfew := h.few s
  have hgs := h.gb s
  have hg1000 : ∀ i, g i < 1000000 := fun i => by have := h.gb i; omega
  have hcs := h.c s hs
  have hlt4 : ((ofWho L s).length : Int) < 4 := by omega
  have hcell : ∀ w1, GrowBut w w1 [] → w1.cell? ⟨B, s, none⟩ = some (.int .u64 (g s)) ∧ w1.frozen? ⟨B, s, none⟩ = false ∧ w1.cell? ⟨B, 6, none⟩ = some (.map (some b)) ∧ MarksAt w1 B b n g L ∧ ∃ D : DataW Unit, w1.ownsMap Try.prog 23 (plainElem Try.prog 4) b n D ∧ Marked D L :=
    fun w1 hg => ⟨hg.cell hcs (by simp), hg.frozen h.lt (h.fz s hs) (by simp), hg.cell h.ptr (by simp), h.kept hg (by simp) (by simp), (h.kept hg (by simp) (by simp)).own⟩
  have hwf : (Lit.int .u64 ((s + 1) * 4294967296 + (g s + 1))).wf = true := (MarkOf.new hs hgs.1).wf (fun i => by unfold upG; have := h.gb i; have := h.gb s; split <;> omega)
  have h6 : s = 0 ∨ s = 1 ∨ s = 2 ∨ s = 3 ∨ s = 4 ∨ s = 5 := by omega
  have hF : ∃ F : Nat, (ofWho L s).length = F := ⟨_, rfl⟩
  obtain ⟨F, hF⟩ := hF
  rw [hF] at hO hlt4
  have hs0 : ¬ (s : Int) < 0 := by omega
  have hs6 : ¬ (s : Int) ≥ 6 := by omega
  generalize hgv : g s = gv at hcell hgs hwf ⊢
  clear hcs
  rcases h6 with rfl | rfl | rfl | rfl | rfl | rfl
  · simp only [Int.cast_ofNat_Int] at *
    go_enter Try.func20, Try.ntmps20
    go_wp2_with (first
      | (go_at_call 24; refine hO.mono ?_; rintro e w1 ⟨v, rfl, ⟨rfl, rfl⟩ | ⟨gr, cap, rfl, hF, hcap, hlo, hhi⟩, hg1⟩; all_goals obtain ⟨c0, f0, c6, hM1, D, hown1, hD⟩ := hcell _ hg1)
      | go_in)
    all_goals go_still_tail 10, (by kernel_rfl)
    all_goals change wpList _ _ _ _ _ w1.drew
    all_goals go_wp2_with (first
      | (at_mapUpdate; refine wpList_mapUpdate_own _ rfl _ _ _ 175 rfl 23 4 lawU Try.underlying175 (plainElem Try.prog 4) b n D rfl (hown1.setCell (Ne.symm h.ne) _).drew (by unfold maxLen; omega) _ _ _ rfl rfl (keyU hwf) _ [] (plainElem_bool Try.underlying4 true) ?_; intro w2 hown2 hg2)
      | go_in)
    all_goals go_ret2
    all_goals exact ⟨rfl, (hM1.given (s := 0) (by omega) hg1000 hgv hD hown2 hg2 hown1.isMap hf).1, (hg1.mono (fun x hx => nomatch hx)).trans (hM1.given (s := 0) (by omega) hg1000 hgv hD hown2 hg2 hown1.isMap hf).2⟩
  · simp only [Int.cast_ofNat_Int] at *
    go_enter Try.func20, Try.ntmps20
    go_wp2_with (first
      | (go_at_call 24; refine hO.mono ?_; rintro e w1 ⟨v, rfl, ⟨rfl, rfl⟩ | ⟨gr, cap, rfl, hF, hcap, hlo, hhi⟩, hg1⟩; all_goals obtain ⟨c0, f0, c6, hM1, D, hown1, hD⟩ := hcell _ hg1)
      | go_in)
    all_goals go_still_tail 10, (by kernel_rfl)
    all_goals change wpList _ _ _ _ _ w1.drew
    all_goals go_wp2_with (first
      | (at_mapUpdate; refine wpList_mapUpdate_own _ rfl _ _ _ 175 rfl 23 4 lawU Try.underlying175 (plainElem Try.prog 4) b n D rfl (hown1.setCell (Ne.symm h.ne) _).drew (by unfold maxLen; omega) _ _ _ rfl rfl (keyU hwf) _ [] (plainElem_bool Try.underlying4 true) ?_; intro w2 hown2 hg2)
      | go_in)
    all_goals go_ret2
    all_goals exact ⟨rfl, (hM1.given (s := 1) (by omega) hg1000 hgv hD hown2 hg2 hown1.isMap hf).1, (hg1.mono (fun x hx => nomatch hx)).trans (hM1.given (s := 1) (by omega) hg1000 hgv hD hown2 hg2 hown1.isMap hf).2⟩
  · simp only [Int.cast_ofNat_Int] at *
    go_enter Try.func20, Try.ntmps20
    go_wp2_with (first
      | (go_at_call 24; refine hO.mono ?_; rintro e w1 ⟨v, rfl, ⟨rfl, rfl⟩ | ⟨gr, cap, rfl, hF, hcap, hlo, hhi⟩, hg1⟩; all_goals obtain ⟨c0, f0, c6, hM1, D, hown1, hD⟩ := hcell _ hg1)
      | go_in)
    all_goals go_still_tail 10, (by kernel_rfl)
    all_goals change wpList _ _ _ _ _ w1.drew
    all_goals go_wp2_with (first
      | (at_mapUpdate; refine wpList_mapUpdate_own _ rfl _ _ _ 175 rfl 23 4 lawU Try.underlying175 (plainElem Try.prog 4) b n D rfl (hown1.setCell (Ne.symm h.ne) _).drew (by unfold maxLen; omega) _ _ _ rfl rfl (keyU hwf) _ [] (plainElem_bool Try.underlying4 true) ?_; intro w2 hown2 hg2)
      | go_in)
    all_goals go_ret2
    all_goals exact ⟨rfl, (hM1.given (s := 2) (by omega) hg1000 hgv hD hown2 hg2 hown1.isMap hf).1, (hg1.mono (fun x hx => nomatch hx)).trans (hM1.given (s := 2) (by omega) hg1000 hgv hD hown2 hg2 hown1.isMap hf).2⟩
  · simp only [Int.cast_ofNat_Int] at *
    go_enter Try.func20, Try.ntmps20
    go_wp2_with (first
      | (go_at_call 24; refine hO.mono ?_; rintro e w1 ⟨v, rfl, ⟨rfl, rfl⟩ | ⟨gr, cap, rfl, hF, hcap, hlo, hhi⟩, hg1⟩; all_goals obtain ⟨c0, f0, c6, hM1, D, hown1, hD⟩ := hcell _ hg1)
      | go_in)
    all_goals go_still_tail 10, (by kernel_rfl)
    all_goals change wpList _ _ _ _ _ w1.drew
    all_goals go_wp2_with (first
      | (at_mapUpdate; refine wpList_mapUpdate_own _ rfl _ _ _ 175 rfl 23 4 lawU Try.underlying175 (plainElem Try.prog 4) b n D rfl (hown1.setCell (Ne.symm h.ne) _).drew (by unfold maxLen; omega) _ _ _ rfl rfl (keyU hwf) _ [] (plainElem_bool Try.underlying4 true) ?_; intro w2 hown2 hg2)
      | go_in)
    all_goals go_ret2
    all_goals exact ⟨rfl, (hM1.given (s := 3) (by omega) hg1000 hgv hD hown2 hg2 hown1.isMap hf).1, (hg1.mono (fun x hx => nomatch hx)).trans (hM1.given (s := 3) (by omega) hg1000 hgv hD hown2 hg2 hown1.isMap hf).2⟩
  · simp only [Int.cast_ofNat_Int] at *
    go_enter Try.func20, Try.ntmps20
    go_wp2_with (first
      | (go_at_call 24; refine hO.mono ?_; rintro e w1 ⟨v, rfl, ⟨rfl, rfl⟩ | ⟨gr, cap, rfl, hF, hcap, hlo, hhi⟩, hg1⟩; all_goals obtain ⟨c0, f0, c6, hM1, D, hown1, hD⟩ := hcell _ hg1)
      | go_in)
    all_goals go_still_tail 10, (by kernel_rfl)
    all_goals change wpList _ _ _ _ _ w1.drew
    all_goals go_wp2_with (first
      | (at_mapUpdate; refine wpList_mapUpdate_own _ rfl _ _ _ 175 rfl 23 4 lawU Try.underlying175 (plainElem Try.prog 4) b n D rfl (hown1.setCell (Ne.symm h.ne) _).drew (by unfold maxLen; omega) _ _ _ rfl rfl (keyU hwf) _ [] (plainElem_bool Try.underlying4 true) ?_; intro w2 hown2 hg2)
      | go_in)
    all_goals go_ret2
    all_goals exact ⟨rfl, (hM1.given (s := 4) (by omega) hg1000 hgv hD hown2 hg2 hown1.isMap hf).1, (hg1.mono (fun x hx => nomatch hx)).trans (hM1.given (s := 4) (by omega) hg1000 hgv hD hown2 hg2 hown1.isMap hf).2⟩
  · simp only [Int.cast_ofNat_Int] at *
    go_enter Try.func20, Try.ntmps20
    go_wp2_with (first
      | (go_at_call 24; refine hO.mono ?_; rintro e w1 ⟨v, rfl, ⟨rfl, rfl⟩ | ⟨gr, cap, rfl, hF, hcap, hlo, hhi⟩, hg1⟩; all_goals obtain ⟨c0, f0, c6, hM1, D, hown1, hD⟩ := hcell _ hg1)
      | go_in)
    all_goals go_still_tail 10, (by kernel_rfl)
    all_goals change wpList _ _ _ _ _ w1.drew
    all_goals go_wp2_with (first
      | (at_mapUpdate; refine wpList_mapUpdate_own _ rfl _ _ _ 175 rfl 23 4 lawU Try.underlying175 (plainElem Try.prog 4) b n D rfl (hown1.setCell (Ne.symm h.ne) _).drew (by unfold maxLen; omega) _ _ _ rfl rfl (keyU hwf) _ [] (plainElem_bool Try.underlying4 true) ?_; intro w2 hown2 hg2)
      | go_in)
    all_goals go_ret2
    all_goals exact ⟨rfl, (hM1.given (s := 5) (by omega) hg1000 hgv hD hown2 hg2 hown1.isMap hf).1, (hg1.mono (fun x hx => nomatch hx)).trans (hM1.given (s := 5) (by omega) hg1000 hgv hD hown2 hg2 hown1.isMap hf).2⟩

end Go.Proofs.Ytlgfopfibopcnaa
