/-
  walk.Walk: the way through a tree's tables, its five ends.
-/
import Derived.Test.YtdhnfhhmacjajaaJ4
import Derived.Test.YtdhnfhhmacjajaaJ7
import Derived.Test.YtdhnfhhmacjajaaJ8
import Derived.ScopeJumps
import Derived.Deep.Cut
import Derived.Deep.RegionHeld
import Derived.KernelRfl
import Derived.Maps.RangeRun

namespace Go.Proofs.Ytdhnfhhmacjajaa
open Go Go.RowKit Go.Maps Go.Am Go.Shelf
set_option linter.unusedVariables false
set_option linter.unusedSimpArgs false

def gT (t : Array Value) (i : Nat) : Value := t.getD i (.int .i64 0)

set_option maxRecDepth 100000 in
theorem ofFn91 (g : Nat → Value) : Array.ofFn (n := 91) (fun i => g i.val) = #[g 0, g 1, g 2, g 3, g 4, g 5, g 6, g 7, g 8, g 9, g 10, g 11, g 12, g 13, g 14, g 15, g 16, g 17, g 18, g 19, g 20, g 21, g 22, g 23, g 24, g 25, g 26, g 27, g 28, g 29, g 30, g 31, g 32, g 33, g 34, g 35, g 36, g 37, g 38, g 39, g 40, g 41, g 42, g 43, g 44, g 45, g 46, g 47, g 48, g 49, g 50, g 51, g 52, g 53, g 54, g 55, g 56, g 57, g 58, g 59, g 60, g 61, g 62, g 63, g 64, g 65, g 66, g 67, g 68, g 69, g 70, g 71, g 72, g 73, g 74, g 75, g 76, g 77, g 78, g 79, g 80, g 81, g 82, g 83, g 84, g 85, g 86, g 87, g 88, g 89, g 90] := by kernel_rfl

theorem lit91 (t : Array Value) (h : t.size = 91) : t = #[gT t 0, gT t 1, gT t 2, gT t 3, gT t 4, gT t 5, gT t 6, gT t 7, gT t 8, gT t 9, gT t 10, gT t 11, gT t 12, gT t 13, gT t 14, gT t 15, gT t 16, gT t 17, gT t 18, gT t 19, gT t 20, gT t 21, gT t 22, gT t 23, gT t 24, gT t 25, gT t 26, gT t 27, gT t 28, gT t 29, gT t 30, gT t 31, gT t 32, gT t 33, gT t 34, gT t 35, gT t 36, gT t 37, gT t 38, gT t 39, gT t 40, gT t 41, gT t 42, gT t 43, gT t 44, gT t 45, gT t 46, gT t 47, gT t 48, gT t 49, gT t 50, gT t 51, gT t 52, gT t 53, gT t 54, gT t 55, gT t 56, gT t 57, gT t 58, gT t 59, gT t 60, gT t 61, gT t 62, gT t 63, gT t 64, gT t 65, gT t 66, gT t 67, gT t 68, gT t 69, gT t 70, gT t 71, gT t 72, gT t 73, gT t 74, gT t 75, gT t 76, gT t 77, gT t 78, gT t 79, gT t 80, gT t 81, gT t 82, gT t 83, gT t 84, gT t 85, gT t 86, gT t 87, gT t 88, gT t 89, gT t 90] := by
  have h1 : t = Array.ofFn (n := 91) (fun i => gT t i.val) := by
    apply Array.ext
    · simp [h]
    · intro i h1 h2
      simp [gT, h1]
  exact h1.trans (ofFn91 (gT t))

/-- At the label of faults. -/
def FaultAt (w : World) (B : Nat) (a' : Act) (w' : World) : Prop :=
  a'.defers = [] ∧ a'.tmps.size = 91 ∧ gT a'.tmps 6 = .pointer (some ⟨B, 0, none⟩) ∧ ∃ x0 x1, w'.cell? ⟨B, 0, none⟩ = some x0 ∧ w'.cell? ⟨B, 1, none⟩ = some x1 ∧ w'.frozen? ⟨B, 0, none⟩ = false ∧ w'.frozen? ⟨B, 1, none⟩ = false ∧ GrowBut w w' []

theorem fault_mk {w : World} {B : Nat} {a' : Act} {w' : World} {x0 x1 : Value} (h1 : a'.defers = []) (h2 : a'.tmps.size = 91) (h3 : gT a'.tmps 6 = .pointer (some ⟨B, 0, none⟩)) (c0 : w'.cell? ⟨B, 0, none⟩ = some x0) (c1 : w'.cell? ⟨B, 1, none⟩ = some x1) (f0 : w'.frozen? ⟨B, 0, none⟩ = false) (f1 : w'.frozen? ⟨B, 1, none⟩ = false) (hg : GrowBut w w' []) : FaultAt w B a' w' :=
  ⟨h1, h2, h3, x0, x1, c0, c1, f0, f1, hg⟩

theorem set2 {w : World} {B : Nat} {x0 x1 a b : Value} (r0 : w.cell? ⟨B, 0, none⟩ = some x0) (r1 : w.cell? ⟨B, 1, none⟩ = some x1) :
    ((w.setCell ⟨B, 0, none⟩ a).setCell ⟨B, 1, none⟩ b).cell? ⟨B, 0, none⟩ = some a ∧ ((w.setCell ⟨B, 0, none⟩ a).setCell ⟨B, 1, none⟩ b).cell? ⟨B, 1, none⟩ = some b :=
  ⟨cell_setO (cell_setS r0) (by decide), cell_setS (cell_setO r1 (by decide))⟩

theorem grow2 (w : World) (B : Nat) (a b : Value) : GrowBut w ((w.setCell ⟨B, 0, none⟩ a).setCell ⟨B, 1, none⟩ b) [B] :=
  (GrowBut.setCell w ⟨B, 0, none⟩ a).trans (GrowBut.setCell (w.setCell ⟨B, 0, none⟩ a) ⟨B, 1, none⟩ b)

theorem frozen2 {w : World} {B j : Nat} (a b : Value) (h : w.frozen? ⟨B, j, none⟩ = false) : ((w.setCell ⟨B, 0, none⟩ a).setCell ⟨B, 1, none⟩ b).frozen? ⟨B, j, none⟩ = false := by
  rw [frozen_set, frozen_set]; exact h

set_option maxRecDepth 100000 in
set_option maxHeartbeats 8000000 in
theorem walkF1 (M L nf : Nat) (sec : Int) (mem : Nat → Int) (root p : Nat) (w : World) (hR : RamAt w M L nf sec mem) (hp : p < 4096) (hrt : root < nf) (e1 : wordF mem root (p / 256) = slotN 0 0 0) :
    Calls Try.prog 22 #[.pointer (some ⟨M, 0, none⟩), .int .i64 root, .int .i64 p] w fun e w' => e = .returned (.tuple #[leafV (0, 0), .int .i64 0, .int .i64 (-20)]) ∧ GrowBut w w' [] := by
  have hPa := fun w1 => pathIn p w1 hp
  have hsm := hR.small
  have hRl := hR.lt
  have hML := hR.ne
  have hp1 : p / 256 < 16 := by omega
  go_enter Try.func22, Try.ntmps22
  go_upto_region 1 with go_in
  have hga := GrowBut.alloc w (.cells #[.int .i64 0, .int .i64 0] 39) []
  have b00 : (w.alloc (.cells #[.int .i64 0, .int .i64 0] 39)).cell? ⟨w.heap.size, 0, none⟩ = some (.int .i64 0) := by go_simp
  have b01 : (w.alloc (.cells #[.int .i64 0, .int .i64 0] 39)).cell? ⟨w.heap.size, 1, none⟩ = some (.int .i64 0) := by go_simp
  have f00 : (w.alloc (.cells #[.int .i64 0, .int .i64 0] 39)).frozen? ⟨w.heap.size, 0, none⟩ = false := by go_simp
  have f01 : (w.alloc (.cells #[.int .i64 0, .int .i64 0] 39)).frozen? ⟨w.heap.size, 1, none⟩ = false := by go_simp
  have hl0 : w.heap.size < (w.alloc (.cells #[.int .i64 0, .int .i64 0] 39)).heap.size := by simp
  generalize (w.alloc (.cells #[.int .i64 0, .int .i64 0] 39)) = w1 at *
  obtain ⟨B, hB⟩ : ∃ B, B = w.heap.size := ⟨_, rfl⟩
  rw [← hB] at b00 b01 f00 f01 hl0 ⊢
  have hB0 : w.heap.size ≤ B := by omega
  have hMB : M < B ∧ L < B := by omega
  clear hB
  have hR0 := hR.kept hga (by simp) (by simp)
  have hgb := GrowBut.alloc w1 (.cells #[.int .i64 0, .int .i64 0, .int .i64 0] 86) []
  have hR1 := hR0.kept hgb (by simp) (by simp)
  have b10 := hgb.cell b00 (by simp)
  have b11 := hgb.cell b01 (by simp)
  have f10 := hgb.frozen (a := ⟨B, 0, none⟩) hl0 f00 (by simp)
  have f11 := hgb.frozen (a := ⟨B, 1, none⟩) hl0 f01 (by simp)
  have hgw1 := hga.trans hgb
  have s10 : (w1.alloc (.cells #[.int .i64 0, .int .i64 0, .int .i64 0] 86)).cell? ⟨w1.heap.size, 0, none⟩ = some (.int .i64 0) := by go_simp
  have s11 : (w1.alloc (.cells #[.int .i64 0, .int .i64 0, .int .i64 0] 86)).cell? ⟨w1.heap.size, 1, none⟩ = some (.int .i64 0) := by go_simp
  have s12 : (w1.alloc (.cells #[.int .i64 0, .int .i64 0, .int .i64 0] 86)).cell? ⟨w1.heap.size, 2, none⟩ = some (.int .i64 0) := by go_simp
  have t10 : (w1.alloc (.cells #[.int .i64 0, .int .i64 0, .int .i64 0] 86)).frozen? ⟨w1.heap.size, 0, none⟩ = false := by go_simp
  have t11 : (w1.alloc (.cells #[.int .i64 0, .int .i64 0, .int .i64 0] 86)).frozen? ⟨w1.heap.size, 1, none⟩ = false := by go_simp
  have t12 : (w1.alloc (.cells #[.int .i64 0, .int .i64 0, .int .i64 0] 86)).frozen? ⟨w1.heap.size, 2, none⟩ = false := by go_simp
  have hl1 : w1.heap.size < (w1.alloc (.cells #[.int .i64 0, .int .i64 0, .int .i64 0] 86)).heap.size := by simp
  have hg1s := hga.size
  refine wp_scope_jumps 0 (FaultAt w B) (fun _ _ => 0) rfl ?_ ?_
  · go_upto_region 4 with (first
      | (go_at_call 38; refine (hPa _).mono ?_; rintro e w5 ⟨rfl, hww⟩; rw [hww]; clear hww w5)
      | go_in)
    clear hR0 hgb b00 b01 f00 f01 hga
    generalize (w1.alloc (.cells #[.int .i64 0, .int .i64 0, .int .i64 0] 86)) = w2 at *
    obtain ⟨B3, hB3⟩ : ∃ B3, B3 = w1.heap.size := ⟨_, rfl⟩
    rw [← hB3] at s10 s11 s12 t10 t11 t12 hl1 hl0 ⊢
    have hB30 : w.heap.size ≤ B3 := by omega
    clear hB3
    have hE1 := entryG M L nf sec mem root (p / 256) 0 0 0 w2 hR1 hrt (by omega) e1 (.inl ⟨rfl, rfl, rfl⟩)
    unfold slotV at hE1
    go_upto_region 5 with (first
      | (go_at_call 41; refine hE1.mono ?_; clear hE1; rintro e v1b ⟨rfl, hgE1⟩; have x10 := hgE1.cell s10 (by simp); have x11 := hgE1.cell s11 (by simp); have x12 := hgE1.cell s12 (by simp); have y10 := hgE1.frozen (a := ⟨B3, 0, none⟩) hl1 t10 (by simp); have y11 := hgE1.frozen (a := ⟨B3, 1, none⟩) hl1 t11 (by simp); have y12 := hgE1.frozen (a := ⟨B3, 2, none⟩) hl1 t12 (by simp))
      | go_in)
    have hgC1 := hgE1.mono (l' := [B3]) (by simp) |>.trans (grow3 v1b B3 (.int .i64 ((0 : Nat) : Int)) (.int .i64 ((0 : Nat) : Int)) (.int .i64 ((0 : Nat) : Int)))
    obtain ⟨s20, s21, s22⟩ := set3 (a := .int .i64 ((0 : Nat) : Int)) (b := .int .i64 ((0 : Nat) : Int)) (c := .int .i64 ((0 : Nat) : Int)) x10 x11 x12
    have t20 := frozen3 (.int .i64 ((0 : Nat) : Int)) (.int .i64 ((0 : Nat) : Int)) (.int .i64 ((0 : Nat) : Int)) y10
    have t21 := frozen3 (.int .i64 ((0 : Nat) : Int)) (.int .i64 ((0 : Nat) : Int)) (.int .i64 ((0 : Nat) : Int)) y11
    have t22 := frozen3 (.int .i64 ((0 : Nat) : Int)) (.int .i64 ((0 : Nat) : Int)) (.int .i64 ((0 : Nat) : Int)) y12
    simp only [Int.cast_ofNat_Int] at hgC1 s20 s21 s22 t20 t21 t22
    generalize ((v1b.setCell ⟨B3, 0, none⟩ (.int .i64 0)).setCell ⟨B3, 1, none⟩ (.int .i64 0)).setCell ⟨B3, 2, none⟩ (.int .i64 0) = v1c at *
    clear x10 x11 x12 y10 y11 y12 s10 s11 s12 t10 t11 t12 hgE1
    have hR2 := hR1.kept hgC1 (by simp; omega) (by simp; omega)
    have b20 := hgC1.cell b10 (by simp; omega)
    have b21 := hgC1.cell b11 (by simp; omega)
    have f20 := hgC1.frozen (a := ⟨B, 0, none⟩) (by show B < _; omega) f10 (by simp; omega)
    have f21 := hgC1.frozen (a := ⟨B, 1, none⟩) (by show B < _; omega) f11 (by simp; omega)
    have hl2 : B3 < v1c.heap.size := Nat.lt_of_lt_of_le hl1 hgC1.size
    have hgw2 := hgw1.from hgC1 (fun x hx => .inr (by simp at hx; omega))
    clear hR1 b10 b11 f10 f11 hgw1 hgC1
    go_wp2_with fail
    repeat (go_step3; (try go_wp2_with fail))
    simp only [Exit.jump]
    refine ⟨trivial, ?_⟩
    refine fault_mk ?_ ?_ ?_ b20 b21 f20 f21 hgw2
    all_goals rfl
  · rintro ⟨t, d⟩ w' ⟨hd, hs, h6, x0, x1, c0, c1, g0, g1, hg⟩
    simp only at hd hs h6
    subst hd
    rw [lit91 t hs, h6]
    go_wp2_with go_in
    simp only [Exit.jump]
    refine bodyPost_ret_by (v := .tuple #[leafV (0, 0), .int .i64 0, .int .i64 (-20)]) ?_ rfl ⟨rfl, hg.from (grow2 w' B (.int .i64 0) (.int .i64 0)) (fun x hx => .inr (by simp at hx; omega))⟩
    unfold leafV
    simp only [results, Try.f22]; go_simp

set_option maxRecDepth 100000 in
set_option maxHeartbeats 8000000 in
theorem walkF2 (M L nf : Nat) (sec : Int) (mem : Nat → Int) (root p : Nat) (w : World) (hR : RamAt w M L nf sec mem) (hp : p < 4096) (hrt : root < nf) (m : Nat) (hm : m < nf) (hlt240 : nf ≤ 240) (e1 : wordF mem root (p / 256) = slotN 1 m 0) (e2 : wordF mem m (p / 16 % 16) = slotN 0 0 0) :
    Calls Try.prog 22 #[.pointer (some ⟨M, 0, none⟩), .int .i64 root, .int .i64 p] w fun e w' => e = .returned (.tuple #[leafV (0, 0), .int .i64 0, .int .i64 (-20)]) ∧ GrowBut w w' [] := by
  have hPa := fun w1 => pathIn p w1 hp
  have hsm := hR.small
  have hRl := hR.lt
  have hML := hR.ne
  have hp1 : p / 256 < 16 := by omega
  go_enter Try.func22, Try.ntmps22
  go_upto_region 1 with go_in
  have hga := GrowBut.alloc w (.cells #[.int .i64 0, .int .i64 0] 39) []
  have b00 : (w.alloc (.cells #[.int .i64 0, .int .i64 0] 39)).cell? ⟨w.heap.size, 0, none⟩ = some (.int .i64 0) := by go_simp
  have b01 : (w.alloc (.cells #[.int .i64 0, .int .i64 0] 39)).cell? ⟨w.heap.size, 1, none⟩ = some (.int .i64 0) := by go_simp
  have f00 : (w.alloc (.cells #[.int .i64 0, .int .i64 0] 39)).frozen? ⟨w.heap.size, 0, none⟩ = false := by go_simp
  have f01 : (w.alloc (.cells #[.int .i64 0, .int .i64 0] 39)).frozen? ⟨w.heap.size, 1, none⟩ = false := by go_simp
  have hl0 : w.heap.size < (w.alloc (.cells #[.int .i64 0, .int .i64 0] 39)).heap.size := by simp
  generalize (w.alloc (.cells #[.int .i64 0, .int .i64 0] 39)) = w1 at *
  obtain ⟨B, hB⟩ : ∃ B, B = w.heap.size := ⟨_, rfl⟩
  rw [← hB] at b00 b01 f00 f01 hl0 ⊢
  have hB0 : w.heap.size ≤ B := by omega
  have hMB : M < B ∧ L < B := by omega
  clear hB
  have hR0 := hR.kept hga (by simp) (by simp)
  have hgb := GrowBut.alloc w1 (.cells #[.int .i64 0, .int .i64 0, .int .i64 0] 86) []
  have hR1 := hR0.kept hgb (by simp) (by simp)
  have b10 := hgb.cell b00 (by simp)
  have b11 := hgb.cell b01 (by simp)
  have f10 := hgb.frozen (a := ⟨B, 0, none⟩) hl0 f00 (by simp)
  have f11 := hgb.frozen (a := ⟨B, 1, none⟩) hl0 f01 (by simp)
  have hgw1 := hga.trans hgb
  have s10 : (w1.alloc (.cells #[.int .i64 0, .int .i64 0, .int .i64 0] 86)).cell? ⟨w1.heap.size, 0, none⟩ = some (.int .i64 0) := by go_simp
  have s11 : (w1.alloc (.cells #[.int .i64 0, .int .i64 0, .int .i64 0] 86)).cell? ⟨w1.heap.size, 1, none⟩ = some (.int .i64 0) := by go_simp
  have s12 : (w1.alloc (.cells #[.int .i64 0, .int .i64 0, .int .i64 0] 86)).cell? ⟨w1.heap.size, 2, none⟩ = some (.int .i64 0) := by go_simp
  have t10 : (w1.alloc (.cells #[.int .i64 0, .int .i64 0, .int .i64 0] 86)).frozen? ⟨w1.heap.size, 0, none⟩ = false := by go_simp
  have t11 : (w1.alloc (.cells #[.int .i64 0, .int .i64 0, .int .i64 0] 86)).frozen? ⟨w1.heap.size, 1, none⟩ = false := by go_simp
  have t12 : (w1.alloc (.cells #[.int .i64 0, .int .i64 0, .int .i64 0] 86)).frozen? ⟨w1.heap.size, 2, none⟩ = false := by go_simp
  have hl1 : w1.heap.size < (w1.alloc (.cells #[.int .i64 0, .int .i64 0, .int .i64 0] 86)).heap.size := by simp
  have hg1s := hga.size
  refine wp_scope_jumps 0 (FaultAt w B) (fun _ _ => 0) rfl ?_ ?_
  · go_upto_region 4 with (first
      | (go_at_call 38; refine (hPa _).mono ?_; rintro e w5 ⟨rfl, hww⟩; rw [hww]; clear hww w5)
      | go_in)
    clear hR0 hgb b00 b01 f00 f01 hga
    generalize (w1.alloc (.cells #[.int .i64 0, .int .i64 0, .int .i64 0] 86)) = w2 at *
    obtain ⟨B3, hB3⟩ : ∃ B3, B3 = w1.heap.size := ⟨_, rfl⟩
    rw [← hB3] at s10 s11 s12 t10 t11 t12 hl1 hl0 ⊢
    have hB30 : w.heap.size ≤ B3 := by omega
    clear hB3
    have hE1 := entryG M L nf sec mem root (p / 256) 1 m 0 w2 hR1 hrt (by omega) e1 (.inr (.inl ⟨rfl, by omega, rfl⟩))
    unfold slotV at hE1
    go_upto_region 5 with (first
      | (go_at_call 41; refine hE1.mono ?_; clear hE1; rintro e v1b ⟨rfl, hgE1⟩; have x10 := hgE1.cell s10 (by simp); have x11 := hgE1.cell s11 (by simp); have x12 := hgE1.cell s12 (by simp); have y10 := hgE1.frozen (a := ⟨B3, 0, none⟩) hl1 t10 (by simp); have y11 := hgE1.frozen (a := ⟨B3, 1, none⟩) hl1 t11 (by simp); have y12 := hgE1.frozen (a := ⟨B3, 2, none⟩) hl1 t12 (by simp))
      | go_in)
    have hgC1 := hgE1.mono (l' := [B3]) (by simp) |>.trans (grow3 v1b B3 (.int .i64 ((1 : Nat) : Int)) (.int .i64 ((m : Nat) : Int)) (.int .i64 ((0 : Nat) : Int)))
    obtain ⟨s20, s21, s22⟩ := set3 (a := .int .i64 ((1 : Nat) : Int)) (b := .int .i64 ((m : Nat) : Int)) (c := .int .i64 ((0 : Nat) : Int)) x10 x11 x12
    have t20 := frozen3 (.int .i64 ((1 : Nat) : Int)) (.int .i64 ((m : Nat) : Int)) (.int .i64 ((0 : Nat) : Int)) y10
    have t21 := frozen3 (.int .i64 ((1 : Nat) : Int)) (.int .i64 ((m : Nat) : Int)) (.int .i64 ((0 : Nat) : Int)) y11
    have t22 := frozen3 (.int .i64 ((1 : Nat) : Int)) (.int .i64 ((m : Nat) : Int)) (.int .i64 ((0 : Nat) : Int)) y12
    simp only [Int.cast_ofNat_Int] at hgC1 s20 s21 s22 t20 t21 t22
    generalize ((v1b.setCell ⟨B3, 0, none⟩ (.int .i64 1)).setCell ⟨B3, 1, none⟩ (.int .i64 (m : Int))).setCell ⟨B3, 2, none⟩ (.int .i64 0) = v1c at *
    clear x10 x11 x12 y10 y11 y12 s10 s11 s12 t10 t11 t12 hgE1
    have hR2 := hR1.kept hgC1 (by simp; omega) (by simp; omega)
    have b20 := hgC1.cell b10 (by simp; omega)
    have b21 := hgC1.cell b11 (by simp; omega)
    have f20 := hgC1.frozen (a := ⟨B, 0, none⟩) (by show B < _; omega) f10 (by simp; omega)
    have f21 := hgC1.frozen (a := ⟨B, 1, none⟩) (by show B < _; omega) f11 (by simp; omega)
    have hl2 : B3 < v1c.heap.size := Nat.lt_of_lt_of_le hl1 hgC1.size
    have hgw2 := hgw1.from hgC1 (fun x hx => .inr (by simp at hx; omega))
    clear hR1 b10 b11 f10 f11 hgw1 hgC1
    have hE2 := entryG M L nf sec mem m (p / 16 % 16) 0 0 0 v1c hR2 hm (by omega) e2 (.inl ⟨rfl, rfl, rfl⟩)
    unfold slotV at hE2
    go_upto_region 7 with (first
      | (go_at_call 41; refine hE2.mono ?_; clear hE2; rintro e v2b ⟨rfl, hgE2⟩; have x20 := hgE2.cell s20 (by simp); have x21 := hgE2.cell s21 (by simp); have x22 := hgE2.cell s22 (by simp); have y20 := hgE2.frozen (a := ⟨B3, 0, none⟩) hl2 t20 (by simp); have y21 := hgE2.frozen (a := ⟨B3, 1, none⟩) hl2 t21 (by simp); have y22 := hgE2.frozen (a := ⟨B3, 2, none⟩) hl2 t22 (by simp))
      | go_in)
    have hgC2 := hgE2.mono (l' := [B3]) (by simp) |>.trans (grow3 v2b B3 (.int .i64 ((0 : Nat) : Int)) (.int .i64 ((0 : Nat) : Int)) (.int .i64 ((0 : Nat) : Int)))
    obtain ⟨s30, s31, s32⟩ := set3 (a := .int .i64 ((0 : Nat) : Int)) (b := .int .i64 ((0 : Nat) : Int)) (c := .int .i64 ((0 : Nat) : Int)) x20 x21 x22
    have t30 := frozen3 (.int .i64 ((0 : Nat) : Int)) (.int .i64 ((0 : Nat) : Int)) (.int .i64 ((0 : Nat) : Int)) y20
    have t31 := frozen3 (.int .i64 ((0 : Nat) : Int)) (.int .i64 ((0 : Nat) : Int)) (.int .i64 ((0 : Nat) : Int)) y21
    have t32 := frozen3 (.int .i64 ((0 : Nat) : Int)) (.int .i64 ((0 : Nat) : Int)) (.int .i64 ((0 : Nat) : Int)) y22
    simp only [Int.cast_ofNat_Int] at hgC2 s30 s31 s32 t30 t31 t32
    generalize ((v2b.setCell ⟨B3, 0, none⟩ (.int .i64 0)).setCell ⟨B3, 1, none⟩ (.int .i64 0)).setCell ⟨B3, 2, none⟩ (.int .i64 0) = v2c at *
    clear x20 x21 x22 y20 y21 y22 s20 s21 s22 t20 t21 t22 hgE2
    have hR3 := hR2.kept hgC2 (by simp; omega) (by simp; omega)
    have b30 := hgC2.cell b20 (by simp; omega)
    have b31 := hgC2.cell b21 (by simp; omega)
    have f30 := hgC2.frozen (a := ⟨B, 0, none⟩) (by show B < _; omega) f20 (by simp; omega)
    have f31 := hgC2.frozen (a := ⟨B, 1, none⟩) (by show B < _; omega) f21 (by simp; omega)
    have hl3 : B3 < v2c.heap.size := Nat.lt_of_lt_of_le hl2 hgC2.size
    have hgw3 := hgw2.from hgC2 (fun x hx => .inr (by simp at hx; omega))
    clear hR2 b20 b21 f20 f21 hgw2 hgC2
    go_wp2_with fail
    repeat (go_step3; (try go_wp2_with fail))
    simp only [Exit.jump]
    refine ⟨trivial, ?_⟩
    refine fault_mk ?_ ?_ ?_ b30 b31 f30 f31 hgw3
    all_goals rfl
  · rintro ⟨t, d⟩ w' ⟨hd, hs, h6, x0, x1, c0, c1, g0, g1, hg⟩
    simp only at hd hs h6
    subst hd
    rw [lit91 t hs, h6]
    go_wp2_with go_in
    simp only [Exit.jump]
    refine bodyPost_ret_by (v := .tuple #[leafV (0, 0), .int .i64 0, .int .i64 (-20)]) ?_ rfl ⟨rfl, hg.from (grow2 w' B (.int .i64 0) (.int .i64 0)) (fun x hx => .inr (by simp at hx; omega))⟩
    unfold leafV
    simp only [results, Try.f22]; go_simp

set_option maxRecDepth 100000 in
set_option maxHeartbeats 8000000 in
theorem walkF4 (M L nf : Nat) (sec : Int) (mem : Nat → Int) (root p : Nat) (w : World) (hR : RamAt w M L nf sec mem) (hp : p < 4096) (hrt : root < nf) (m e : Nat) (hm : m < nf) (he : e < nf) (hlt240 : nf ≤ 240) (e1 : wordF mem root (p / 256) = slotN 1 m 0) (e2 : wordF mem m (p / 16 % 16) = slotN 1 e 0) (e3 : wordF mem e (p % 16) = slotN 0 0 0) :
    Calls Try.prog 22 #[.pointer (some ⟨M, 0, none⟩), .int .i64 root, .int .i64 p] w fun e w' => e = .returned (.tuple #[leafV (0, 0), .int .i64 0, .int .i64 (-20)]) ∧ GrowBut w w' [] := by
  have hPa := fun w1 => pathIn p w1 hp
  have hsm := hR.small
  have hRl := hR.lt
  have hML := hR.ne
  have hp1 : p / 256 < 16 := by omega
  go_enter Try.func22, Try.ntmps22
  go_upto_region 1 with go_in
  have hga := GrowBut.alloc w (.cells #[.int .i64 0, .int .i64 0] 39) []
  have b00 : (w.alloc (.cells #[.int .i64 0, .int .i64 0] 39)).cell? ⟨w.heap.size, 0, none⟩ = some (.int .i64 0) := by go_simp
  have b01 : (w.alloc (.cells #[.int .i64 0, .int .i64 0] 39)).cell? ⟨w.heap.size, 1, none⟩ = some (.int .i64 0) := by go_simp
  have f00 : (w.alloc (.cells #[.int .i64 0, .int .i64 0] 39)).frozen? ⟨w.heap.size, 0, none⟩ = false := by go_simp
  have f01 : (w.alloc (.cells #[.int .i64 0, .int .i64 0] 39)).frozen? ⟨w.heap.size, 1, none⟩ = false := by go_simp
  have hl0 : w.heap.size < (w.alloc (.cells #[.int .i64 0, .int .i64 0] 39)).heap.size := by simp
  generalize (w.alloc (.cells #[.int .i64 0, .int .i64 0] 39)) = w1 at *
  obtain ⟨B, hB⟩ : ∃ B, B = w.heap.size := ⟨_, rfl⟩
  rw [← hB] at b00 b01 f00 f01 hl0 ⊢
  have hB0 : w.heap.size ≤ B := by omega
  have hMB : M < B ∧ L < B := by omega
  clear hB
  have hR0 := hR.kept hga (by simp) (by simp)
  have hgb := GrowBut.alloc w1 (.cells #[.int .i64 0, .int .i64 0, .int .i64 0] 86) []
  have hR1 := hR0.kept hgb (by simp) (by simp)
  have b10 := hgb.cell b00 (by simp)
  have b11 := hgb.cell b01 (by simp)
  have f10 := hgb.frozen (a := ⟨B, 0, none⟩) hl0 f00 (by simp)
  have f11 := hgb.frozen (a := ⟨B, 1, none⟩) hl0 f01 (by simp)
  have hgw1 := hga.trans hgb
  have s10 : (w1.alloc (.cells #[.int .i64 0, .int .i64 0, .int .i64 0] 86)).cell? ⟨w1.heap.size, 0, none⟩ = some (.int .i64 0) := by go_simp
  have s11 : (w1.alloc (.cells #[.int .i64 0, .int .i64 0, .int .i64 0] 86)).cell? ⟨w1.heap.size, 1, none⟩ = some (.int .i64 0) := by go_simp
  have s12 : (w1.alloc (.cells #[.int .i64 0, .int .i64 0, .int .i64 0] 86)).cell? ⟨w1.heap.size, 2, none⟩ = some (.int .i64 0) := by go_simp
  have t10 : (w1.alloc (.cells #[.int .i64 0, .int .i64 0, .int .i64 0] 86)).frozen? ⟨w1.heap.size, 0, none⟩ = false := by go_simp
  have t11 : (w1.alloc (.cells #[.int .i64 0, .int .i64 0, .int .i64 0] 86)).frozen? ⟨w1.heap.size, 1, none⟩ = false := by go_simp
  have t12 : (w1.alloc (.cells #[.int .i64 0, .int .i64 0, .int .i64 0] 86)).frozen? ⟨w1.heap.size, 2, none⟩ = false := by go_simp
  have hl1 : w1.heap.size < (w1.alloc (.cells #[.int .i64 0, .int .i64 0, .int .i64 0] 86)).heap.size := by simp
  have hg1s := hga.size
  refine wp_scope_jumps 0 (FaultAt w B) (fun _ _ => 0) rfl ?_ ?_
  · go_upto_region 4 with (first
      | (go_at_call 38; refine (hPa _).mono ?_; rintro e w5 ⟨rfl, hww⟩; rw [hww]; clear hww w5)
      | go_in)
    clear hR0 hgb b00 b01 f00 f01 hga
    generalize (w1.alloc (.cells #[.int .i64 0, .int .i64 0, .int .i64 0] 86)) = w2 at *
    obtain ⟨B3, hB3⟩ : ∃ B3, B3 = w1.heap.size := ⟨_, rfl⟩
    rw [← hB3] at s10 s11 s12 t10 t11 t12 hl1 hl0 ⊢
    have hB30 : w.heap.size ≤ B3 := by omega
    clear hB3
    have hE1 := entryG M L nf sec mem root (p / 256) 1 m 0 w2 hR1 hrt (by omega) e1 (.inr (.inl ⟨rfl, by omega, rfl⟩))
    unfold slotV at hE1
    go_upto_region 5 with (first
      | (go_at_call 41; refine hE1.mono ?_; clear hE1; rintro e v1b ⟨rfl, hgE1⟩; have x10 := hgE1.cell s10 (by simp); have x11 := hgE1.cell s11 (by simp); have x12 := hgE1.cell s12 (by simp); have y10 := hgE1.frozen (a := ⟨B3, 0, none⟩) hl1 t10 (by simp); have y11 := hgE1.frozen (a := ⟨B3, 1, none⟩) hl1 t11 (by simp); have y12 := hgE1.frozen (a := ⟨B3, 2, none⟩) hl1 t12 (by simp))
      | go_in)
    have hgC1 := hgE1.mono (l' := [B3]) (by simp) |>.trans (grow3 v1b B3 (.int .i64 ((1 : Nat) : Int)) (.int .i64 ((m : Nat) : Int)) (.int .i64 ((0 : Nat) : Int)))
    obtain ⟨s20, s21, s22⟩ := set3 (a := .int .i64 ((1 : Nat) : Int)) (b := .int .i64 ((m : Nat) : Int)) (c := .int .i64 ((0 : Nat) : Int)) x10 x11 x12
    have t20 := frozen3 (.int .i64 ((1 : Nat) : Int)) (.int .i64 ((m : Nat) : Int)) (.int .i64 ((0 : Nat) : Int)) y10
    have t21 := frozen3 (.int .i64 ((1 : Nat) : Int)) (.int .i64 ((m : Nat) : Int)) (.int .i64 ((0 : Nat) : Int)) y11
    have t22 := frozen3 (.int .i64 ((1 : Nat) : Int)) (.int .i64 ((m : Nat) : Int)) (.int .i64 ((0 : Nat) : Int)) y12
    simp only [Int.cast_ofNat_Int] at hgC1 s20 s21 s22 t20 t21 t22
    generalize ((v1b.setCell ⟨B3, 0, none⟩ (.int .i64 1)).setCell ⟨B3, 1, none⟩ (.int .i64 (m : Int))).setCell ⟨B3, 2, none⟩ (.int .i64 0) = v1c at *
    clear x10 x11 x12 y10 y11 y12 s10 s11 s12 t10 t11 t12 hgE1
    have hR2 := hR1.kept hgC1 (by simp; omega) (by simp; omega)
    have b20 := hgC1.cell b10 (by simp; omega)
    have b21 := hgC1.cell b11 (by simp; omega)
    have f20 := hgC1.frozen (a := ⟨B, 0, none⟩) (by show B < _; omega) f10 (by simp; omega)
    have f21 := hgC1.frozen (a := ⟨B, 1, none⟩) (by show B < _; omega) f11 (by simp; omega)
    have hl2 : B3 < v1c.heap.size := Nat.lt_of_lt_of_le hl1 hgC1.size
    have hgw2 := hgw1.from hgC1 (fun x hx => .inr (by simp at hx; omega))
    clear hR1 b10 b11 f10 f11 hgw1 hgC1
    have hE2 := entryG M L nf sec mem m (p / 16 % 16) 1 e 0 v1c hR2 hm (by omega) e2 (.inr (.inl ⟨rfl, by omega, rfl⟩))
    unfold slotV at hE2
    go_upto_region 7 with (first
      | (go_at_call 41; refine hE2.mono ?_; clear hE2; rintro e v2b ⟨rfl, hgE2⟩; have x20 := hgE2.cell s20 (by simp); have x21 := hgE2.cell s21 (by simp); have x22 := hgE2.cell s22 (by simp); have y20 := hgE2.frozen (a := ⟨B3, 0, none⟩) hl2 t20 (by simp); have y21 := hgE2.frozen (a := ⟨B3, 1, none⟩) hl2 t21 (by simp); have y22 := hgE2.frozen (a := ⟨B3, 2, none⟩) hl2 t22 (by simp))
      | go_in)
    have hgC2 := hgE2.mono (l' := [B3]) (by simp) |>.trans (grow3 v2b B3 (.int .i64 ((1 : Nat) : Int)) (.int .i64 ((e : Nat) : Int)) (.int .i64 ((0 : Nat) : Int)))
    obtain ⟨s30, s31, s32⟩ := set3 (a := .int .i64 ((1 : Nat) : Int)) (b := .int .i64 ((e : Nat) : Int)) (c := .int .i64 ((0 : Nat) : Int)) x20 x21 x22
    have t30 := frozen3 (.int .i64 ((1 : Nat) : Int)) (.int .i64 ((e : Nat) : Int)) (.int .i64 ((0 : Nat) : Int)) y20
    have t31 := frozen3 (.int .i64 ((1 : Nat) : Int)) (.int .i64 ((e : Nat) : Int)) (.int .i64 ((0 : Nat) : Int)) y21
    have t32 := frozen3 (.int .i64 ((1 : Nat) : Int)) (.int .i64 ((e : Nat) : Int)) (.int .i64 ((0 : Nat) : Int)) y22
    simp only [Int.cast_ofNat_Int] at hgC2 s30 s31 s32 t30 t31 t32
    generalize ((v2b.setCell ⟨B3, 0, none⟩ (.int .i64 1)).setCell ⟨B3, 1, none⟩ (.int .i64 (e : Int))).setCell ⟨B3, 2, none⟩ (.int .i64 0) = v2c at *
    clear x20 x21 x22 y20 y21 y22 s20 s21 s22 t20 t21 t22 hgE2
    have hR3 := hR2.kept hgC2 (by simp; omega) (by simp; omega)
    have b30 := hgC2.cell b20 (by simp; omega)
    have b31 := hgC2.cell b21 (by simp; omega)
    have f30 := hgC2.frozen (a := ⟨B, 0, none⟩) (by show B < _; omega) f20 (by simp; omega)
    have f31 := hgC2.frozen (a := ⟨B, 1, none⟩) (by show B < _; omega) f21 (by simp; omega)
    have hl3 : B3 < v2c.heap.size := Nat.lt_of_lt_of_le hl2 hgC2.size
    have hgw3 := hgw2.from hgC2 (fun x hx => .inr (by simp at hx; omega))
    clear hR2 b20 b21 f20 f21 hgw2 hgC2
    have hE3 := entryG M L nf sec mem e (p % 16) 0 0 0 v2c hR3 he (by omega) e3 (.inl ⟨rfl, rfl, rfl⟩)
    unfold slotV at hE3
    go_upto_region 12 with (first
      | (go_at_call 41; refine hE3.mono ?_; clear hE3; rintro e v3b ⟨rfl, hgE3⟩; have x30 := hgE3.cell s30 (by simp); have x31 := hgE3.cell s31 (by simp); have x32 := hgE3.cell s32 (by simp); have y30 := hgE3.frozen (a := ⟨B3, 0, none⟩) hl3 t30 (by simp); have y31 := hgE3.frozen (a := ⟨B3, 1, none⟩) hl3 t31 (by simp); have y32 := hgE3.frozen (a := ⟨B3, 2, none⟩) hl3 t32 (by simp))
      | go_in)
    have hgC3 := hgE3.mono (l' := [B3]) (by simp) |>.trans (grow3 v3b B3 (.int .i64 ((0 : Nat) : Int)) (.int .i64 ((0 : Nat) : Int)) (.int .i64 ((0 : Nat) : Int)))
    obtain ⟨s40, s41, s42⟩ := set3 (a := .int .i64 ((0 : Nat) : Int)) (b := .int .i64 ((0 : Nat) : Int)) (c := .int .i64 ((0 : Nat) : Int)) x30 x31 x32
    have t40 := frozen3 (.int .i64 ((0 : Nat) : Int)) (.int .i64 ((0 : Nat) : Int)) (.int .i64 ((0 : Nat) : Int)) y30
    have t41 := frozen3 (.int .i64 ((0 : Nat) : Int)) (.int .i64 ((0 : Nat) : Int)) (.int .i64 ((0 : Nat) : Int)) y31
    have t42 := frozen3 (.int .i64 ((0 : Nat) : Int)) (.int .i64 ((0 : Nat) : Int)) (.int .i64 ((0 : Nat) : Int)) y32
    simp only [Int.cast_ofNat_Int] at hgC3 s40 s41 s42 t40 t41 t42
    generalize ((v3b.setCell ⟨B3, 0, none⟩ (.int .i64 0)).setCell ⟨B3, 1, none⟩ (.int .i64 0)).setCell ⟨B3, 2, none⟩ (.int .i64 0) = v3c at *
    clear x30 x31 x32 y30 y31 y32 s30 s31 s32 t30 t31 t32 hgE3
    have hR4 := hR3.kept hgC3 (by simp; omega) (by simp; omega)
    have b40 := hgC3.cell b30 (by simp; omega)
    have b41 := hgC3.cell b31 (by simp; omega)
    have f40 := hgC3.frozen (a := ⟨B, 0, none⟩) (by show B < _; omega) f30 (by simp; omega)
    have f41 := hgC3.frozen (a := ⟨B, 1, none⟩) (by show B < _; omega) f31 (by simp; omega)
    have hl4 : B3 < v3c.heap.size := Nat.lt_of_lt_of_le hl3 hgC3.size
    have hgw4 := hgw3.from hgC3 (fun x hx => .inr (by simp at hx; omega))
    clear hR3 b30 b31 f30 f31 hgw3 hgC3
    go_wp2_with fail
    repeat (go_step3; (try go_wp2_with fail))
    simp only [Exit.jump]
    refine ⟨trivial, ?_⟩
    refine fault_mk ?_ ?_ ?_ b40 b41 f40 f41 hgw4
    all_goals rfl
  · rintro ⟨t, d⟩ w' ⟨hd, hs, h6, x0, x1, c0, c1, g0, g1, hg⟩
    simp only at hd hs h6
    subst hd
    rw [lit91 t hs, h6]
    go_wp2_with go_in
    simp only [Exit.jump]
    refine bodyPost_ret_by (v := .tuple #[leafV (0, 0), .int .i64 0, .int .i64 (-20)]) ?_ rfl ⟨rfl, hg.from (grow2 w' B (.int .i64 0) (.int .i64 0)) (fun x hx => .inr (by simp at hx; omega))⟩
    unfold leafV
    simp only [results, Try.f22]; go_simp

set_option maxRecDepth 100000 in
set_option maxHeartbeats 2000000 in
theorem ramFrames (M L nf : Nat) (sec : Int) (mem : Nat → Int) (w : World) (hR : RamAt w M L nf sec mem) : Calls Try.prog 42 #[.pointer (some ⟨M, 0, none⟩)] w fun e w' => e = .returned (.int .i64 nf) ∧ w' = w := by
  have c0 := hR.c0
  go_enter Try.func42, Try.ntmps42
  go_wp2_with fail
  go_ret
  exact ⟨rfl, rfl⟩

/-- At the label of ends. -/
def ThereAt (w : World) (M L nf : Nat) (sec : Int) (mem : Nat → Int) (B : Nat) (fr pm : Int) (a' : Act) (w' : World) : Prop :=
  a'.defers = [] ∧ a'.tmps.size = 91 ∧ gT a'.tmps 0 = .pointer (some ⟨M, 0, none⟩) ∧ gT a'.tmps 6 = .pointer (some ⟨B, 0, none⟩) ∧ gT a'.tmps 7 = .int .i64 2 ∧ w'.cell? ⟨B, 0, none⟩ = some (.int .i64 fr) ∧ w'.cell? ⟨B, 1, none⟩ = some (.int .i64 pm) ∧ w'.frozen? ⟨B, 0, none⟩ = false ∧ w'.frozen? ⟨B, 1, none⟩ = false ∧ RamAt w' M L nf sec mem ∧ GrowBut w w' []

theorem there_mk {w : World} {M L nf : Nat} {sec : Int} {mem : Nat → Int} {B : Nat} {fr pm : Int} {a' : Act} {w' : World} (h1 : a'.defers = []) (h2 : a'.tmps.size = 91) (h0 : gT a'.tmps 0 = .pointer (some ⟨M, 0, none⟩)) (h6 : gT a'.tmps 6 = .pointer (some ⟨B, 0, none⟩)) (h7 : gT a'.tmps 7 = .int .i64 2) (c0 : w'.cell? ⟨B, 0, none⟩ = some (.int .i64 fr)) (c1 : w'.cell? ⟨B, 1, none⟩ = some (.int .i64 pm)) (f0 : w'.frozen? ⟨B, 0, none⟩ = false) (f1 : w'.frozen? ⟨B, 1, none⟩ = false) (hR : RamAt w' M L nf sec mem) (hg : GrowBut w w' []) : ThereAt w M L nf sec mem B fr pm a' w' :=
  ⟨h1, h2, h0, h6, h7, c0, c1, f0, f1, hR, hg⟩

set_option maxRecDepth 100000 in
set_option maxHeartbeats 8000000 in
theorem walkB (M L nf : Nat) (sec : Int) (mem : Nat → Int) (root p : Nat) (w : World) (hR : RamAt w M L nf sec mem) (hp : p < 4096) (hrt : root < nf) (m f pm : Nat) (hm : m < nf) (hlt240 : nf ≤ 240) (hpm : 1 ≤ pm ∧ pm ≤ 7) (hfn : f + p % 16 < nf) (e1 : wordF mem root (p / 256) = slotN 1 m 0) (e2 : wordF mem m (p / 16 % 16) = slotN 3 f pm) :
    Calls Try.prog 22 #[.pointer (some ⟨M, 0, none⟩), .int .i64 root, .int .i64 p] w fun e w' => e = .returned (.tuple #[leafV ((f : Int) + (p : Int) % 16, (pm : Int)), .int .i64 2, .int .i64 0]) ∧ GrowBut w w' [] := by
  have hPa := fun w1 => pathIn p w1 hp
  have hsm := hR.small
  have hRl := hR.lt
  have hML := hR.ne
  have hp1 : p / 256 < 16 := by omega
  go_enter Try.func22, Try.ntmps22
  go_upto_region 1 with go_in
  have hga := GrowBut.alloc w (.cells #[.int .i64 0, .int .i64 0] 39) []
  have b00 : (w.alloc (.cells #[.int .i64 0, .int .i64 0] 39)).cell? ⟨w.heap.size, 0, none⟩ = some (.int .i64 0) := by go_simp
  have b01 : (w.alloc (.cells #[.int .i64 0, .int .i64 0] 39)).cell? ⟨w.heap.size, 1, none⟩ = some (.int .i64 0) := by go_simp
  have f00 : (w.alloc (.cells #[.int .i64 0, .int .i64 0] 39)).frozen? ⟨w.heap.size, 0, none⟩ = false := by go_simp
  have f01 : (w.alloc (.cells #[.int .i64 0, .int .i64 0] 39)).frozen? ⟨w.heap.size, 1, none⟩ = false := by go_simp
  have hl0 : w.heap.size < (w.alloc (.cells #[.int .i64 0, .int .i64 0] 39)).heap.size := by simp
  generalize (w.alloc (.cells #[.int .i64 0, .int .i64 0] 39)) = w1 at *
  obtain ⟨B, hB⟩ : ∃ B, B = w.heap.size := ⟨_, rfl⟩
  rw [← hB] at b00 b01 f00 f01 hl0 ⊢
  have hB0 : w.heap.size ≤ B := by omega
  have hMB : M < B ∧ L < B := by omega
  clear hB
  have hR0 := hR.kept hga (by simp) (by simp)
  have hgb := GrowBut.alloc w1 (.cells #[.int .i64 0, .int .i64 0, .int .i64 0] 86) []
  have hR1 := hR0.kept hgb (by simp) (by simp)
  have b10 := hgb.cell b00 (by simp)
  have b11 := hgb.cell b01 (by simp)
  have f10 := hgb.frozen (a := ⟨B, 0, none⟩) hl0 f00 (by simp)
  have f11 := hgb.frozen (a := ⟨B, 1, none⟩) hl0 f01 (by simp)
  have hgw1 := hga.trans hgb
  have s10 : (w1.alloc (.cells #[.int .i64 0, .int .i64 0, .int .i64 0] 86)).cell? ⟨w1.heap.size, 0, none⟩ = some (.int .i64 0) := by go_simp
  have s11 : (w1.alloc (.cells #[.int .i64 0, .int .i64 0, .int .i64 0] 86)).cell? ⟨w1.heap.size, 1, none⟩ = some (.int .i64 0) := by go_simp
  have s12 : (w1.alloc (.cells #[.int .i64 0, .int .i64 0, .int .i64 0] 86)).cell? ⟨w1.heap.size, 2, none⟩ = some (.int .i64 0) := by go_simp
  have t10 : (w1.alloc (.cells #[.int .i64 0, .int .i64 0, .int .i64 0] 86)).frozen? ⟨w1.heap.size, 0, none⟩ = false := by go_simp
  have t11 : (w1.alloc (.cells #[.int .i64 0, .int .i64 0, .int .i64 0] 86)).frozen? ⟨w1.heap.size, 1, none⟩ = false := by go_simp
  have t12 : (w1.alloc (.cells #[.int .i64 0, .int .i64 0, .int .i64 0] 86)).frozen? ⟨w1.heap.size, 2, none⟩ = false := by go_simp
  have hl1 : w1.heap.size < (w1.alloc (.cells #[.int .i64 0, .int .i64 0, .int .i64 0] 86)).heap.size := by simp
  have hg1s := hga.size
  refine wp_scope_jumps 1 (ThereAt w M L nf sec mem B ((f : Int) + (p : Int) % 16) (pm : Int)) (fun _ _ => 0) rfl ?_ ?_
  · go_upto_region 4 with (first
      | (go_at_call 38; refine (hPa _).mono ?_; rintro e w5 ⟨rfl, hww⟩; rw [hww]; clear hww w5)
      | go_in)
    clear hR0 hgb b00 b01 f00 f01 hga
    generalize (w1.alloc (.cells #[.int .i64 0, .int .i64 0, .int .i64 0] 86)) = w2 at *
    obtain ⟨B3, hB3⟩ : ∃ B3, B3 = w1.heap.size := ⟨_, rfl⟩
    rw [← hB3] at s10 s11 s12 t10 t11 t12 hl1 hl0 ⊢
    have hB30 : w.heap.size ≤ B3 := by omega
    clear hB3
    have hE1 := entryG M L nf sec mem root (p / 256) 1 m 0 w2 hR1 hrt (by omega) e1 (.inr (.inl ⟨rfl, by omega, rfl⟩))
    unfold slotV at hE1
    go_upto_region 5 with (first
      | (go_at_call 41; refine hE1.mono ?_; clear hE1; rintro e v1b ⟨rfl, hgE1⟩; have x10 := hgE1.cell s10 (by simp); have x11 := hgE1.cell s11 (by simp); have x12 := hgE1.cell s12 (by simp); have y10 := hgE1.frozen (a := ⟨B3, 0, none⟩) hl1 t10 (by simp); have y11 := hgE1.frozen (a := ⟨B3, 1, none⟩) hl1 t11 (by simp); have y12 := hgE1.frozen (a := ⟨B3, 2, none⟩) hl1 t12 (by simp))
      | go_in)
    have hgC1 := hgE1.mono (l' := [B3]) (by simp) |>.trans (grow3 v1b B3 (.int .i64 ((1 : Nat) : Int)) (.int .i64 ((m : Nat) : Int)) (.int .i64 ((0 : Nat) : Int)))
    obtain ⟨s20, s21, s22⟩ := set3 (a := .int .i64 ((1 : Nat) : Int)) (b := .int .i64 ((m : Nat) : Int)) (c := .int .i64 ((0 : Nat) : Int)) x10 x11 x12
    have t20 := frozen3 (.int .i64 ((1 : Nat) : Int)) (.int .i64 ((m : Nat) : Int)) (.int .i64 ((0 : Nat) : Int)) y10
    have t21 := frozen3 (.int .i64 ((1 : Nat) : Int)) (.int .i64 ((m : Nat) : Int)) (.int .i64 ((0 : Nat) : Int)) y11
    have t22 := frozen3 (.int .i64 ((1 : Nat) : Int)) (.int .i64 ((m : Nat) : Int)) (.int .i64 ((0 : Nat) : Int)) y12
    simp only [Int.cast_ofNat_Int] at hgC1 s20 s21 s22 t20 t21 t22
    generalize ((v1b.setCell ⟨B3, 0, none⟩ (.int .i64 1)).setCell ⟨B3, 1, none⟩ (.int .i64 (m : Int))).setCell ⟨B3, 2, none⟩ (.int .i64 0) = v1c at *
    clear x10 x11 x12 y10 y11 y12 s10 s11 s12 t10 t11 t12 hgE1
    have hR2 := hR1.kept hgC1 (by simp; omega) (by simp; omega)
    have b20 := hgC1.cell b10 (by simp; omega)
    have b21 := hgC1.cell b11 (by simp; omega)
    have f20 := hgC1.frozen (a := ⟨B, 0, none⟩) (by show B < _; omega) f10 (by simp; omega)
    have f21 := hgC1.frozen (a := ⟨B, 1, none⟩) (by show B < _; omega) f11 (by simp; omega)
    have hl2 : B3 < v1c.heap.size := Nat.lt_of_lt_of_le hl1 hgC1.size
    have hgw2 := hgw1.from hgC1 (fun x hx => .inr (by simp at hx; omega))
    clear hR1 b10 b11 f10 f11 hgw1 hgC1
    have hE2 := entryG M L nf sec mem m (p / 16 % 16) 3 f pm v1c hR2 hm (by omega) e2 (.inr (.inr (.inr ⟨rfl, by omega, hpm.1, hpm.2⟩)))
    unfold slotV at hE2
    go_upto_region 7 with (first
      | (go_at_call 41; refine hE2.mono ?_; clear hE2; rintro e v2b ⟨rfl, hgE2⟩; have x20 := hgE2.cell s20 (by simp); have x21 := hgE2.cell s21 (by simp); have x22 := hgE2.cell s22 (by simp); have y20 := hgE2.frozen (a := ⟨B3, 0, none⟩) hl2 t20 (by simp); have y21 := hgE2.frozen (a := ⟨B3, 1, none⟩) hl2 t21 (by simp); have y22 := hgE2.frozen (a := ⟨B3, 2, none⟩) hl2 t22 (by simp))
      | go_in)
    have hgC2 := hgE2.mono (l' := [B3]) (by simp) |>.trans (grow3 v2b B3 (.int .i64 ((3 : Nat) : Int)) (.int .i64 ((f : Nat) : Int)) (.int .i64 ((pm : Nat) : Int)))
    obtain ⟨s30, s31, s32⟩ := set3 (a := .int .i64 ((3 : Nat) : Int)) (b := .int .i64 ((f : Nat) : Int)) (c := .int .i64 ((pm : Nat) : Int)) x20 x21 x22
    have t30 := frozen3 (.int .i64 ((3 : Nat) : Int)) (.int .i64 ((f : Nat) : Int)) (.int .i64 ((pm : Nat) : Int)) y20
    have t31 := frozen3 (.int .i64 ((3 : Nat) : Int)) (.int .i64 ((f : Nat) : Int)) (.int .i64 ((pm : Nat) : Int)) y21
    have t32 := frozen3 (.int .i64 ((3 : Nat) : Int)) (.int .i64 ((f : Nat) : Int)) (.int .i64 ((pm : Nat) : Int)) y22
    simp only [Int.cast_ofNat_Int] at hgC2 s30 s31 s32 t30 t31 t32
    generalize ((v2b.setCell ⟨B3, 0, none⟩ (.int .i64 3)).setCell ⟨B3, 1, none⟩ (.int .i64 (f : Int))).setCell ⟨B3, 2, none⟩ (.int .i64 (pm : Int)) = v2c at *
    clear x20 x21 x22 y20 y21 y22 s20 s21 s22 t20 t21 t22 hgE2
    have hR3 := hR2.kept hgC2 (by simp; omega) (by simp; omega)
    have b30 := hgC2.cell b20 (by simp; omega)
    have b31 := hgC2.cell b21 (by simp; omega)
    have f30 := hgC2.frozen (a := ⟨B, 0, none⟩) (by show B < _; omega) f20 (by simp; omega)
    have f31 := hgC2.frozen (a := ⟨B, 1, none⟩) (by show B < _; omega) f21 (by simp; omega)
    have hl3 : B3 < v2c.heap.size := Nat.lt_of_lt_of_le hl2 hgC2.size
    have hgw3 := hgw2.from hgC2 (fun x hx => .inr (by simp at hx; omega))
    clear hR2 b20 b21 f20 f21 hgw2 hgC2
    have hwa := IntWalk.i64_in ((f : Int) + (p : Int) % 16) (by omega)
    go_wp2_with fail
    obtain ⟨a0, a1⟩ := set2 (a := .int .i64 ((f : Int) + (p : Int) % 16)) (b := .int .i64 (pm : Int)) b30 b31
    have a2 := frozen2 (.int .i64 ((f : Int) + (p : Int) % 16)) (.int .i64 (pm : Int)) f30
    have a3 := frozen2 (.int .i64 ((f : Int) + (p : Int) % 16)) (.int .i64 (pm : Int)) f31
    have a4 := grow2 v2c B (.int .i64 ((f : Int) + (p : Int) % 16)) (.int .i64 (pm : Int))
    repeat (go_step3; (try go_wp2_with fail))
    simp only [Exit.jump]
    refine ⟨trivial, ?_⟩
    refine there_mk ?_ ?_ ?_ ?_ ?_ a0 a1 a2 a3 (hR3.kept a4 (by simp; omega) (by simp; omega)) (hgw3.from a4 (fun x hx => .inr (by simp at hx; omega)))
    all_goals rfl
  · rintro ⟨t, d⟩ w' ⟨hd, hs, h0, h6, h7, c0, c1, g0, g1, hRw, hg⟩
    simp only at hd hs h0 h6 h7
    subst hd
    rw [lit91 t hs, h0, h6, h7]
    go_upto_region 14 with go_in
    have q0 : w'.drew.cell? ⟨B, 0, none⟩ = some (.int .i64 ((f : Int) + (p : Int) % 16)) := c0
    have q1 : w'.drew.cell? ⟨B, 1, none⟩ = some (.int .i64 (pm : Int)) := c1
    have z0 : w'.drew.frozen? ⟨B, 0, none⟩ = false := g0
    have z1 : w'.drew.frozen? ⟨B, 1, none⟩ = false := g1
    have hFr := ramFrames M L nf sec mem w'.drew (hRw.kept (GrowBut.drew _ []) (by simp) (by simp))
    have hdec : decide (((f : Int) + (p : Int) % 16) < (nf : Int)) = true := decide_eq_true (by omega)
    have hgd := hg.trans (GrowBut.drew w' [])
    go_region_held (fun w' => w'.cell? ⟨B, 0, none⟩ = some (.int .i64 ((f : Int) + (p : Int) % 16))) (first | go_keep | (exact q0))
      (first
        | (go_at_call 42; refine hFr.mono ?_; rintro e w9 ⟨rfl, hww⟩; rw [hww]; clear hww w9)
        | fail)
    go_wp2_with go_in
    simp only [Exit.jump]
    refine bodyPost_ret_by (v := .tuple #[leafV (((f : Int) + (p : Int) % 16), (pm : Int)), .int .i64 2, .int .i64 0]) ?_ rfl ⟨rfl, hgd.from (grow2 w'.drew B (.int .i64 ((f : Int) + (p : Int) % 16)) (.int .i64 (pm : Int))) (fun x hx => .inr (by simp at hx; omega))⟩
    unfold leafV
    simp only [results, Try.f22]; go_simp

set_option maxRecDepth 100000 in
set_option maxHeartbeats 8000000 in
theorem walkP (M L nf : Nat) (sec : Int) (mem : Nat → Int) (root p : Nat) (w : World) (hR : RamAt w M L nf sec mem) (hp : p < 4096) (hrt : root < nf) (m e f pm : Nat) (hm : m < nf) (he : e < nf) (hlt240 : nf ≤ 240) (hpm : 1 ≤ pm ∧ pm ≤ 7) (hfn : f < nf) (e1 : wordF mem root (p / 256) = slotN 1 m 0) (e2 : wordF mem m (p / 16 % 16) = slotN 1 e 0) (e3 : wordF mem e (p % 16) = slotN 2 f pm) :
    Calls Try.prog 22 #[.pointer (some ⟨M, 0, none⟩), .int .i64 root, .int .i64 p] w fun e w' => e = .returned (.tuple #[leafV ((f : Int), (pm : Int)), .int .i64 3, .int .i64 0]) ∧ GrowBut w w' [] := by
  have hPa := fun w1 => pathIn p w1 hp
  have hsm := hR.small
  have hRl := hR.lt
  have hML := hR.ne
  have hp1 : p / 256 < 16 := by omega
  go_enter Try.func22, Try.ntmps22
  go_upto_region 1 with go_in
  have hga := GrowBut.alloc w (.cells #[.int .i64 0, .int .i64 0] 39) []
  have b00 : (w.alloc (.cells #[.int .i64 0, .int .i64 0] 39)).cell? ⟨w.heap.size, 0, none⟩ = some (.int .i64 0) := by go_simp
  have b01 : (w.alloc (.cells #[.int .i64 0, .int .i64 0] 39)).cell? ⟨w.heap.size, 1, none⟩ = some (.int .i64 0) := by go_simp
  have f00 : (w.alloc (.cells #[.int .i64 0, .int .i64 0] 39)).frozen? ⟨w.heap.size, 0, none⟩ = false := by go_simp
  have f01 : (w.alloc (.cells #[.int .i64 0, .int .i64 0] 39)).frozen? ⟨w.heap.size, 1, none⟩ = false := by go_simp
  have hl0 : w.heap.size < (w.alloc (.cells #[.int .i64 0, .int .i64 0] 39)).heap.size := by simp
  generalize (w.alloc (.cells #[.int .i64 0, .int .i64 0] 39)) = w1 at *
  obtain ⟨B, hB⟩ : ∃ B, B = w.heap.size := ⟨_, rfl⟩
  rw [← hB] at b00 b01 f00 f01 hl0 ⊢
  have hB0 : w.heap.size ≤ B := by omega
  have hMB : M < B ∧ L < B := by omega
  clear hB
  have hR0 := hR.kept hga (by simp) (by simp)
  have hgb := GrowBut.alloc w1 (.cells #[.int .i64 0, .int .i64 0, .int .i64 0] 86) []
  have hR1 := hR0.kept hgb (by simp) (by simp)
  have b10 := hgb.cell b00 (by simp)
  have b11 := hgb.cell b01 (by simp)
  have f10 := hgb.frozen (a := ⟨B, 0, none⟩) hl0 f00 (by simp)
  have f11 := hgb.frozen (a := ⟨B, 1, none⟩) hl0 f01 (by simp)
  have hgw1 := hga.trans hgb
  have s10 : (w1.alloc (.cells #[.int .i64 0, .int .i64 0, .int .i64 0] 86)).cell? ⟨w1.heap.size, 0, none⟩ = some (.int .i64 0) := by go_simp
  have s11 : (w1.alloc (.cells #[.int .i64 0, .int .i64 0, .int .i64 0] 86)).cell? ⟨w1.heap.size, 1, none⟩ = some (.int .i64 0) := by go_simp
  have s12 : (w1.alloc (.cells #[.int .i64 0, .int .i64 0, .int .i64 0] 86)).cell? ⟨w1.heap.size, 2, none⟩ = some (.int .i64 0) := by go_simp
  have t10 : (w1.alloc (.cells #[.int .i64 0, .int .i64 0, .int .i64 0] 86)).frozen? ⟨w1.heap.size, 0, none⟩ = false := by go_simp
  have t11 : (w1.alloc (.cells #[.int .i64 0, .int .i64 0, .int .i64 0] 86)).frozen? ⟨w1.heap.size, 1, none⟩ = false := by go_simp
  have t12 : (w1.alloc (.cells #[.int .i64 0, .int .i64 0, .int .i64 0] 86)).frozen? ⟨w1.heap.size, 2, none⟩ = false := by go_simp
  have hl1 : w1.heap.size < (w1.alloc (.cells #[.int .i64 0, .int .i64 0, .int .i64 0] 86)).heap.size := by simp
  have hg1s := hga.size
  refine wp_scope_jumps 1 (fun _ _ => False) (fun _ _ => 0) rfl ?_ ?_
  · go_upto_region 4 with (first
      | (go_at_call 38; refine (hPa _).mono ?_; rintro e w5 ⟨rfl, hww⟩; rw [hww]; clear hww w5)
      | go_in)
    clear hR0 hgb b00 b01 f00 f01 hga
    generalize (w1.alloc (.cells #[.int .i64 0, .int .i64 0, .int .i64 0] 86)) = w2 at *
    obtain ⟨B3, hB3⟩ : ∃ B3, B3 = w1.heap.size := ⟨_, rfl⟩
    rw [← hB3] at s10 s11 s12 t10 t11 t12 hl1 hl0 ⊢
    have hB30 : w.heap.size ≤ B3 := by omega
    clear hB3
    have hE1 := entryG M L nf sec mem root (p / 256) 1 m 0 w2 hR1 hrt (by omega) e1 (.inr (.inl ⟨rfl, by omega, rfl⟩))
    unfold slotV at hE1
    go_upto_region 5 with (first
      | (go_at_call 41; refine hE1.mono ?_; clear hE1; rintro e v1b ⟨rfl, hgE1⟩; have x10 := hgE1.cell s10 (by simp); have x11 := hgE1.cell s11 (by simp); have x12 := hgE1.cell s12 (by simp); have y10 := hgE1.frozen (a := ⟨B3, 0, none⟩) hl1 t10 (by simp); have y11 := hgE1.frozen (a := ⟨B3, 1, none⟩) hl1 t11 (by simp); have y12 := hgE1.frozen (a := ⟨B3, 2, none⟩) hl1 t12 (by simp))
      | go_in)
    have hgC1 := hgE1.mono (l' := [B3]) (by simp) |>.trans (grow3 v1b B3 (.int .i64 ((1 : Nat) : Int)) (.int .i64 ((m : Nat) : Int)) (.int .i64 ((0 : Nat) : Int)))
    obtain ⟨s20, s21, s22⟩ := set3 (a := .int .i64 ((1 : Nat) : Int)) (b := .int .i64 ((m : Nat) : Int)) (c := .int .i64 ((0 : Nat) : Int)) x10 x11 x12
    have t20 := frozen3 (.int .i64 ((1 : Nat) : Int)) (.int .i64 ((m : Nat) : Int)) (.int .i64 ((0 : Nat) : Int)) y10
    have t21 := frozen3 (.int .i64 ((1 : Nat) : Int)) (.int .i64 ((m : Nat) : Int)) (.int .i64 ((0 : Nat) : Int)) y11
    have t22 := frozen3 (.int .i64 ((1 : Nat) : Int)) (.int .i64 ((m : Nat) : Int)) (.int .i64 ((0 : Nat) : Int)) y12
    simp only [Int.cast_ofNat_Int] at hgC1 s20 s21 s22 t20 t21 t22
    generalize ((v1b.setCell ⟨B3, 0, none⟩ (.int .i64 1)).setCell ⟨B3, 1, none⟩ (.int .i64 (m : Int))).setCell ⟨B3, 2, none⟩ (.int .i64 0) = v1c at *
    clear x10 x11 x12 y10 y11 y12 s10 s11 s12 t10 t11 t12 hgE1
    have hR2 := hR1.kept hgC1 (by simp; omega) (by simp; omega)
    have b20 := hgC1.cell b10 (by simp; omega)
    have b21 := hgC1.cell b11 (by simp; omega)
    have f20 := hgC1.frozen (a := ⟨B, 0, none⟩) (by show B < _; omega) f10 (by simp; omega)
    have f21 := hgC1.frozen (a := ⟨B, 1, none⟩) (by show B < _; omega) f11 (by simp; omega)
    have hl2 : B3 < v1c.heap.size := Nat.lt_of_lt_of_le hl1 hgC1.size
    have hgw2 := hgw1.from hgC1 (fun x hx => .inr (by simp at hx; omega))
    clear hR1 b10 b11 f10 f11 hgw1 hgC1
    have hE2 := entryG M L nf sec mem m (p / 16 % 16) 1 e 0 v1c hR2 hm (by omega) e2 (.inr (.inl ⟨rfl, by omega, rfl⟩))
    unfold slotV at hE2
    go_upto_region 7 with (first
      | (go_at_call 41; refine hE2.mono ?_; clear hE2; rintro e v2b ⟨rfl, hgE2⟩; have x20 := hgE2.cell s20 (by simp); have x21 := hgE2.cell s21 (by simp); have x22 := hgE2.cell s22 (by simp); have y20 := hgE2.frozen (a := ⟨B3, 0, none⟩) hl2 t20 (by simp); have y21 := hgE2.frozen (a := ⟨B3, 1, none⟩) hl2 t21 (by simp); have y22 := hgE2.frozen (a := ⟨B3, 2, none⟩) hl2 t22 (by simp))
      | go_in)
    have hgC2 := hgE2.mono (l' := [B3]) (by simp) |>.trans (grow3 v2b B3 (.int .i64 ((1 : Nat) : Int)) (.int .i64 ((e : Nat) : Int)) (.int .i64 ((0 : Nat) : Int)))
    obtain ⟨s30, s31, s32⟩ := set3 (a := .int .i64 ((1 : Nat) : Int)) (b := .int .i64 ((e : Nat) : Int)) (c := .int .i64 ((0 : Nat) : Int)) x20 x21 x22
    have t30 := frozen3 (.int .i64 ((1 : Nat) : Int)) (.int .i64 ((e : Nat) : Int)) (.int .i64 ((0 : Nat) : Int)) y20
    have t31 := frozen3 (.int .i64 ((1 : Nat) : Int)) (.int .i64 ((e : Nat) : Int)) (.int .i64 ((0 : Nat) : Int)) y21
    have t32 := frozen3 (.int .i64 ((1 : Nat) : Int)) (.int .i64 ((e : Nat) : Int)) (.int .i64 ((0 : Nat) : Int)) y22
    simp only [Int.cast_ofNat_Int] at hgC2 s30 s31 s32 t30 t31 t32
    generalize ((v2b.setCell ⟨B3, 0, none⟩ (.int .i64 1)).setCell ⟨B3, 1, none⟩ (.int .i64 (e : Int))).setCell ⟨B3, 2, none⟩ (.int .i64 0) = v2c at *
    clear x20 x21 x22 y20 y21 y22 s20 s21 s22 t20 t21 t22 hgE2
    have hR3 := hR2.kept hgC2 (by simp; omega) (by simp; omega)
    have b30 := hgC2.cell b20 (by simp; omega)
    have b31 := hgC2.cell b21 (by simp; omega)
    have f30 := hgC2.frozen (a := ⟨B, 0, none⟩) (by show B < _; omega) f20 (by simp; omega)
    have f31 := hgC2.frozen (a := ⟨B, 1, none⟩) (by show B < _; omega) f21 (by simp; omega)
    have hl3 : B3 < v2c.heap.size := Nat.lt_of_lt_of_le hl2 hgC2.size
    have hgw3 := hgw2.from hgC2 (fun x hx => .inr (by simp at hx; omega))
    clear hR2 b20 b21 f20 f21 hgw2 hgC2
    have hE3 := entryG M L nf sec mem e (p % 16) 2 f pm v2c hR3 he (by omega) e3 (.inr (.inr (.inl ⟨rfl, by omega, hpm.1, hpm.2⟩)))
    unfold slotV at hE3
    go_upto_region 12 with (first
      | (go_at_call 41; refine hE3.mono ?_; clear hE3; rintro e v3b ⟨rfl, hgE3⟩; have x30 := hgE3.cell s30 (by simp); have x31 := hgE3.cell s31 (by simp); have x32 := hgE3.cell s32 (by simp); have y30 := hgE3.frozen (a := ⟨B3, 0, none⟩) hl3 t30 (by simp); have y31 := hgE3.frozen (a := ⟨B3, 1, none⟩) hl3 t31 (by simp); have y32 := hgE3.frozen (a := ⟨B3, 2, none⟩) hl3 t32 (by simp))
      | go_in)
    have hgC3 := hgE3.mono (l' := [B3]) (by simp) |>.trans (grow3 v3b B3 (.int .i64 ((2 : Nat) : Int)) (.int .i64 ((f : Nat) : Int)) (.int .i64 ((pm : Nat) : Int)))
    obtain ⟨s40, s41, s42⟩ := set3 (a := .int .i64 ((2 : Nat) : Int)) (b := .int .i64 ((f : Nat) : Int)) (c := .int .i64 ((pm : Nat) : Int)) x30 x31 x32
    have t40 := frozen3 (.int .i64 ((2 : Nat) : Int)) (.int .i64 ((f : Nat) : Int)) (.int .i64 ((pm : Nat) : Int)) y30
    have t41 := frozen3 (.int .i64 ((2 : Nat) : Int)) (.int .i64 ((f : Nat) : Int)) (.int .i64 ((pm : Nat) : Int)) y31
    have t42 := frozen3 (.int .i64 ((2 : Nat) : Int)) (.int .i64 ((f : Nat) : Int)) (.int .i64 ((pm : Nat) : Int)) y32
    simp only [Int.cast_ofNat_Int] at hgC3 s40 s41 s42 t40 t41 t42
    generalize ((v3b.setCell ⟨B3, 0, none⟩ (.int .i64 2)).setCell ⟨B3, 1, none⟩ (.int .i64 (f : Int))).setCell ⟨B3, 2, none⟩ (.int .i64 (pm : Int)) = v3c at *
    clear x30 x31 x32 y30 y31 y32 s30 s31 s32 t30 t31 t32 hgE3
    have hR4 := hR3.kept hgC3 (by simp; omega) (by simp; omega)
    have b40 := hgC3.cell b30 (by simp; omega)
    have b41 := hgC3.cell b31 (by simp; omega)
    have f40 := hgC3.frozen (a := ⟨B, 0, none⟩) (by show B < _; omega) f30 (by simp; omega)
    have f41 := hgC3.frozen (a := ⟨B, 1, none⟩) (by show B < _; omega) f31 (by simp; omega)
    have hl4 : B3 < v3c.heap.size := Nat.lt_of_lt_of_le hl3 hgC3.size
    have hgw4 := hgw3.from hgC3 (fun x hx => .inr (by simp at hx; omega))
    clear hR3 b30 b31 f30 f31 hgw3 hgC3
    go_upto_region 14 with go_in
    obtain ⟨a0, a1⟩ := set2 (a := .int .i64 (f : Int)) (b := .int .i64 (pm : Int)) b40 b41
    have a2 := frozen2 (.int .i64 (f : Int)) (.int .i64 (pm : Int)) f40
    have a3 := frozen2 (.int .i64 (f : Int)) (.int .i64 (pm : Int)) f41
    have a4 := grow2 v3c B (.int .i64 (f : Int)) (.int .i64 (pm : Int))
    have hRt := hR4.kept a4 (by simp; omega) (by simp; omega)
    have hgt := hgw4.from a4 (fun x hx => .inr (by simp at hx; omega))
    generalize (v3c.setCell ⟨B, 0, none⟩ (.int .i64 (f : Int))).setCell ⟨B, 1, none⟩ (.int .i64 (pm : Int)) = wt at *
    repeat (go_step3; (try go_wp2_with fail))
    have q0 : wt.drew.cell? ⟨B, 0, none⟩ = some (.int .i64 (f : Int)) := a0
    have q1 : wt.drew.cell? ⟨B, 1, none⟩ = some (.int .i64 (pm : Int)) := a1
    have z0 : wt.drew.frozen? ⟨B, 0, none⟩ = false := a2
    have z1 : wt.drew.frozen? ⟨B, 1, none⟩ = false := a3
    have hFr := ramFrames M L nf sec mem wt.drew (hRt.kept (GrowBut.drew _ []) (by simp) (by simp))
    have hdec : decide ((f : Int) < (nf : Int)) = true := decide_eq_true (by omega)
    have hgd := hgt.trans (GrowBut.drew wt [])
    go_region_held (fun w' => w'.cell? ⟨B, 0, none⟩ = some (.int .i64 (f : Int))) (first | go_keep | (exact q0))
      (first
        | (go_at_call 42; refine hFr.mono ?_; rintro e w9 ⟨rfl, hww⟩; rw [hww]; clear hww w9)
        | fail)
    go_wp2_with go_in
    simp only [Exit.jump]
    refine bodyPost_ret_by (v := .tuple #[leafV ((f : Int), (pm : Int)), .int .i64 3, .int .i64 0]) ?_ rfl ⟨rfl, hgd.from (grow2 wt.drew B (.int .i64 (f : Int)) (.int .i64 (pm : Int))) (fun x hx => .inr (by simp at hx; omega))⟩
    unfold leafV
    simp only [results, Try.f22]; go_simp
  · rintro a' w' h
    exact h.elim

end Go.Proofs.Ytdhnfhhmacjajaa


/-
  walk.Walk of a tree whose tables say its map.
-/
namespace Go.Proofs.Ytdhnfhhmacjajaa
open Go Go.RowKit Go.Maps Go.Am Go.Shelf
set_option linter.unusedVariables false
set_option linter.unusedSimpArgs false

theorem wholeG_ok (F : LfF) (g : Int) : ∀ n : Nat, wholeG F g n = true → ∀ j : Nat, j < n → okG F g j = true
  | 0, _, j, hj => absurd hj (Nat.not_lt_zero _)
  | n + 1, h, j, hj => by
    rw [wholeG, Bool.and_eq_true] at h
    rcases Nat.lt_or_ge j n with hl | hl
    · exact wholeG_ok F g n h.1 j hl
    · have : j = n := by omega
      subst this
      exact h.2

theorem wholeG_fst (F : LfF) (g : Int) : ∀ n : Nat, wholeG F g n = true → (F (g * 16)).isSome = true
  | 0, h => h
  | n + 1, h => by
    rw [wholeG, Bool.and_eq_true] at h
    exact wholeG_fst F g n h.1

/-- What a block says of its pages. -/
theorem wholeG_pg {F : LfF} {g : Int} (h : wholeG F g 16 = true) {l0 : Int × Int} (h0 : F (g * 16) = some l0) {j : Nat} (hj : j < 16) : F (g * 16 + j) = some (l0.1 + j, l0.2) := by
  have h1 := wholeG_ok F g 16 h j hj
  unfold okG at h1
  rw [h0] at h1
  cases hx : F (g * 16 + j) with
  | none => rw [hx] at h1; simp at h1
  | some l =>
    rw [hx] at h1
    simp only [Option.isSome_some, Option.getD_some, Bool.true_and, Bool.and_eq_true, beq_iff_eq] at h1
    obtain ⟨l1, l2⟩ := l
    simp only at h1
    rw [h1.1, h1.2]

/-- What the walk answers. -/
def walkV (F : LfF) (p : Int) : Value := match F p with
  | none => .tuple #[leafV (0, 0), .int .i64 0, .int .i64 (-20)]
  | some l => .tuple #[leafV l, .int .i64 (if wholeG F (p / 16) 16 then 2 else 3), .int .i64 0]

theorem walkG (A : GA) (X : List Nat) (k : Nat) (F : LfF) (p : Nat) (w : World) (h : GrAt w A X k F) (hp : p < 4096) (hfr : ∀ x l, F x = some l → l.1 < A.nf) :
    Calls Try.prog 22 #[.pointer (some ⟨A.M, 0, none⟩), .int .i64 A.root, .int .i64 p] w fun e w' => e = .returned (walkV F p) ∧ GrowBut w w' [] := by
  obtain ⟨mem, tk, b, nh, nt, MI, EN, ow, hT, hmi, hen, hgi, hsy, h5, h6, h7⟩ := h.tree
  have hR := hT.st.ram
  have hok := hT.ok
  have hlt240 := hR.small.2.1
  have hfro := hT.st.stock
  have hnf : ∀ x f, comb A.root MI EN x = some f → 0 ≤ f ∧ f.toNat < A.nf := by
    intro x f hx
    obtain ⟨i, hi, e, _, _⟩ := hgi.fr x f hx
    have := hT.st.fit; have := hfro.small
    omega
  have hrt : A.root < A.nf := by
    have := (hnf (-1) _ (comb_root A.root MI EN)).2
    omega
  have hg16 : ((p : Int) / 16) * 16 + ((p % 16 : Nat) : Int) = p := by omega
  have hgn : (((p / 16 : Nat) : Int)) = (p : Int) / 16 := by omega
  have hga : ((p : Int) / 16) / 16 = ((p / 256 : Nat) : Int) := by omega
  have hany : (F p).isSome = true → anyG F ((p : Int) / 16) 16 = true := fun hs => (anyG_iff F _ 16).2 ⟨p % 16, by omega, by rw [hg16]; exact hs⟩
  have hsr := hsy.sr (p / 256) (by omega)
  have hsm := hsy.sm (p / 16) (by omega)
  have hse := hsy.se (p / 16) (by omega)
  rw [hgn] at hsm hse
  rw [hga] at hsm
  unfold walkV
  cases hM : MI ((p / 256 : Nat) : Int) with
  | none =>
    have hF : F p = none := by
      cases hx : F p with
      | none => rfl
      | some l =>
        have := (hmi ((p / 256 : Nat) : Int)).2 ((mem_midsL F _ 256).2 ⟨p / 16, by omega, by omega, by rw [hgn]; exact hany (by rw [hx]; rfl)⟩)
        rw [hM] at this
        cases this
    rw [hF]
    unfold rootN at hsr
    rw [hM] at hsr
    exact walkF1 A.M A.L A.nf A.sec mem A.root p w hR hp hrt hsr
  | some f =>
    have hfl := hnf _ _ ((comb_mid A.root MI EN (a := ((p / 256 : Nat) : Int)) (by omega) (by omega)).trans hM)
    unfold rootN at hsr
    rw [hM] at hsr
    have e2 := hsm f hM
    unfold midN at e2
    cases hE : EN ((p : Int) / 16) with
    | some e =>
      rw [hE] at e2
      have hel := hnf _ _ ((comb_end A.root MI EN (g := (p : Int) / 16) (by omega)).trans hE)
      have e3 := hse e hE (p % 16) (by omega)
      rw [hg16] at e3
      unfold leafN at e3
      have hw : wholeG F ((p : Int) / 16) 16 = false := by
        obtain ⟨g, hg, e1, _, e4⟩ := (mem_endsL F _ 256).1 ((hen ((p : Int) / 16)).1 (by rw [hE]; rfl))
        rw [e1]; exact e4
      cases hF : F p with
      | none =>
        rw [hF] at e3
        exact walkF4 A.M A.L A.nf A.sec mem A.root p w hR hp hrt f.toNat e.toNat hfl.2 hel.2 hlt240 hsr e2 e3
      | some l =>
        rw [hF] at e3
        have q1 := hok.fr p l hF
        have q2 := hok.pm p l hF
        have q3 := hfr p l hF
        have hh := walkP A.M A.L A.nf A.sec mem A.root p w hR hp hrt f.toNat e.toNat l.1.toNat l.2.toNat hfl.2 hel.2 hlt240 (by omega) (by omega) hsr e2 e3
        rw [Int.toNat_of_nonneg q1.1, Int.toNat_of_nonneg (by omega : 0 ≤ l.2)] at hh
        simp only [hw]
        exact hh
    | none =>
      rw [hE] at e2
      simp only at e2
      have hna : ¬ (anyG F ((p : Int) / 16) 16 = true ∧ wholeG F ((p : Int) / 16) 16 = false) := by
        intro hc
        have := (hen ((p : Int) / 16)).2 ((mem_endsL F _ 256).2 ⟨p / 16, by omega, hgn.symm, by rw [hgn]; exact hc.1, by rw [hgn]; exact hc.2⟩)
        rw [hE] at this
        cases this
      unfold leafN at e2
      cases h0 : F ((p : Int) / 16 * 16) with
      | none =>
        rw [h0] at e2
        have hF : F p = none := by
          cases hx : F p with
          | none => rfl
          | some l =>
            refine absurd ⟨hany (by rw [hx]; rfl), ?_⟩ hna
            cases hy : wholeG F ((p : Int) / 16) 16 with
            | false => rfl
            | true =>
              have := wholeG_fst F _ 16 hy
              rw [h0] at this
              cases this
        rw [hF]
        exact walkF2 A.M A.L A.nf A.sec mem A.root p w hR hp hrt f.toNat hfl.2 hlt240 hsr e2
      | some l0 =>
        rw [h0] at e2
        have hw : wholeG F ((p : Int) / 16) 16 = true := by
          cases hy : wholeG F ((p : Int) / 16) 16 with
          | true => rfl
          | false => exact absurd ⟨(anyG_iff F _ 16).2 ⟨0, by omega, by simp [h0]⟩, hy⟩ hna
        have hF := wholeG_pg hw h0 (j := p % 16) (by omega)
        rw [hg16] at hF
        have q1 := hok.fr _ l0 h0
        have q2 := hok.pm _ l0 h0
        have q3 := hfr _ _ hF
        simp only at q3
        rw [hF]
        have hh := walkB A.M A.L A.nf A.sec mem A.root p w hR hp hrt f.toNat l0.1.toNat l0.2.toNat hfl.2 hlt240 (by omega) (by omega) hsr e2
        rw [Int.toNat_of_nonneg q1.1, Int.toNat_of_nonneg (by omega : 0 ≤ l0.2)] at hh
        simp only [hw]
        have : (((p % 16 : Nat)) : Int) = (p : Int) % 16 := by omega
        rw [this]
        exact hh

end Go.Proofs.Ytdhnfhhmacjajaa


/-
  GraftBlocks: the plain law of a group's sixteen pages.
-/
namespace Go.Proofs.Ytdhnfhhmacjajaa
open Go Go.RowKit Go.Maps Go.Am
set_option linter.unusedVariables false
set_option linter.unusedSimpArgs false

theorem one_len : ∀ {l : List Int} {a : Int}, l.Nodup → (∀ x, x ∈ l ↔ x = a) → l.length = 1
  | [], a, _, h => absurd ((h a).2 rfl) (by simp)
  | [_], _, _, _ => rfl
  | x :: y :: l, a, hn, h => by
    have e1 := (h x).1 (by simp)
    have e2 := (h y).1 (by simp)
    rw [List.nodup_cons] at hn
    exact absurd (by rw [e1, e2]; simp) hn.1

theorem none_len : ∀ {l : List Int}, (∀ x, x ∉ l) → l.length = 0
  | [], _ => rfl
  | x :: l, h => absurd (by simp) (h x)

/-- A map of one group. -/
theorem tabs_grp {F : LfF} (g0 : Nat) (hg : g0 < 256) (h : ∀ x, (F x).isSome = true → x / 16 = (g0 : Int)) (ha : anyG F g0 16 = true) : tabsN F = if wholeG F g0 16 then 2 else 3 := by
  have hone : ∀ g : Nat, anyG F g 16 = true → (g : Int) = g0 := by
    intro g hgg
    obtain ⟨j, hj, hs⟩ := (anyG_iff F g 16).1 hgg
    have := h _ hs
    omega
  have hm : (midsL F 256).length = 1 := by
    refine one_len (a := (g0 : Int) / 16) (nodup_midsL F 256) (fun x => ?_)
    rw [mem_midsL]
    constructor
    · rintro ⟨g, _, rfl, hgg⟩
      rw [hone g hgg]
    · rintro rfl
      exact ⟨g0, hg, rfl, ha⟩
  unfold tabsN
  rw [hm]
  cases hw : wholeG F g0 16 with
  | true =>
    have he : (endsL F 256).length = 0 := none_len (fun x hx => by
      obtain ⟨g, _, _, h1, h2⟩ := (mem_endsL F x 256).1 hx
      rw [hone g h1, hw] at h2
      cases h2)
    rw [he]; rfl
  | false =>
    have he : (endsL F 256).length = 1 := by
      refine one_len (a := (g0 : Int)) (nodup_endsL F 256) (fun x => ?_)
      rw [mem_endsL]
      constructor
      · rintro ⟨g, _, rfl, hgg, _⟩
        exact hone g hgg
      · rintro rfl
        exact ⟨g0, hg, rfl, ha, hw⟩
    rw [he]; rfl

/-- Behind so many Sets. -/
def blF (t : Nat) : Nat → LfF
  | 0 => fun _ => none
  | i + 1 => putL (blF t i) (32 + (((i * 5 + t) % 16 : Nat) : Int)) (40 + (((i * 5 + t) % 16 : Nat) : Int), 3)

theorem blF_at (t : Nat) (x : Int) : ∀ i : Nat, blF t i x = if ∃ j : Nat, j < i ∧ x = 32 + (((j * 5 + t) % 16 : Nat) : Int) then some (x + 8, 3) else none
  | 0 => by simp [blF]
  | i + 1 => by
    rw [blF, putL]
    by_cases hx : x = 32 + (((i * 5 + t) % 16 : Nat) : Int)
    · rw [if_pos hx, if_pos ⟨i, by omega, hx⟩]
      congr 2
      omega
    · rw [if_neg hx, blF_at t x i]
      by_cases hy : ∃ j : Nat, j < i ∧ x = 32 + (((j * 5 + t) % 16 : Nat) : Int)
      · obtain ⟨j, hj, e⟩ := hy
        rw [if_pos ⟨j, hj, e⟩, if_pos ⟨j, by omega, e⟩]
      · rw [if_neg hy, if_neg]
        rintro ⟨j, hj, e⟩
        rcases Nat.lt_or_ge j i with hl | hl
        · exact hy ⟨j, hl, e⟩
        · have : j = i := by omega
          subst this
          exact hx e

/-- The whole block. -/
def blW : LfF := fun x => if 32 ≤ x ∧ x < 48 then some (x + 8, 3) else none

theorem blF_whole (t : Nat) : blF t 16 = blW := by
  funext x
  rw [blF_at]
  unfold blW
  by_cases h : 32 ≤ x ∧ x < 48
  · rw [if_pos h, if_pos]
    refine ⟨((x.toNat - 32 + 15 * (t % 16)) * 13) % 16, Nat.mod_lt _ (by omega), ?_⟩
    omega
  · rw [if_neg h, if_neg]
    rintro ⟨j, _, e⟩
    omega

theorem anyG_of {F : LfF} {g : Int} {x : Int} (h : (F x).isSome = true) (hx : x / 16 = g) : anyG F g 16 = true :=
  (anyG_iff F g 16).2 ⟨(x % 16).toNat, by omega, by rw [show g * 16 + (((x % 16).toNat : Nat) : Int) = x by omega]; exact h⟩

theorem wholeG_not {F : LfF} {g : Int} (j : Nat) (hj : j < 16) (h : okG F g j = false) : wholeG F g 16 = false := by
  cases hw : wholeG F g 16 with
  | false => rfl
  | true => rw [wholeG_ok F g 16 hw j hj] at h; cases h

theorem wholeG_miss {F : LfF} {g : Int} (j : Nat) (hj : j < 16) (h : F (g * 16 + j) = none) : wholeG F g 16 = false :=
  wholeG_not j hj (by unfold okG; rw [h]; rfl)

/-- Before the last Set: three tables. -/
theorem tabs_bl (t i : Nat) (h0 : 0 < i) (hi : i < 16) : tabsN (blF t i) = 3 := by
  have h1 : ∀ x, (blF t i x).isSome = true → x / 16 = ((2 : Nat) : Int) := by
    intro x hx
    rw [blF_at] at hx
    by_cases hy : ∃ j : Nat, j < i ∧ x = 32 + (((j * 5 + t) % 16 : Nat) : Int)
    · obtain ⟨j, _, e⟩ := hy; omega
    · rw [if_neg hy] at hx; cases hx
  have h2 : anyG (blF t i) ((2 : Nat) : Int) 16 = true := anyG_of (x := 32 + (((0 * 5 + t) % 16 : Nat) : Int)) (by rw [blF_at, if_pos ⟨0, h0, rfl⟩]; rfl) (by omega)
  have h3 : wholeG (blF t i) ((2 : Nat) : Int) 16 = false := by
    refine wholeG_miss ((15 * 5 + t) % 16) (by omega) ?_
    rw [blF_at, if_neg]
    rintro ⟨j, hj, e⟩
    omega
  rw [tabs_grp 2 (by omega) h1 h2, h3]
  rfl

theorem whole_blW : wholeG blW ((2 : Nat) : Int) 16 = true := by decide +kernel

theorem any_blW : anyG blW ((2 : Nat) : Int) 16 = true := by decide +kernel

theorem blW_one (x : Int) (hx : (blW x).isSome = true) : x / 16 = ((2 : Nat) : Int) := by
  unfold blW at hx
  by_cases h : 32 ≤ x ∧ x < 48
  · omega
  · rw [if_neg h] at hx; cases hx

theorem tabs_blW : tabsN blW = 2 := by
  rw [tabs_grp 2 (by omega) blW_one any_blW, whole_blW]; rfl

/-- One is turned. -/
theorem put_blW (w : Nat) (hw : w < 16) (l : Int × Int) (hl : l ≠ (40 + (w : Int), 3)) : wholeG (putL blW (32 + (w : Int)) l) ((2 : Nat) : Int) 16 = false ∧ tabsN (putL blW (32 + (w : Int)) l) = 3 := by
  have h1 : ∀ x, (putL blW (32 + (w : Int)) l x).isSome = true → x / 16 = ((2 : Nat) : Int) := by
    intro x hx
    unfold putL at hx
    by_cases h : x = 32 + (w : Int)
    · omega
    · rw [if_neg h] at hx; exact blW_one x hx
  have h2 : anyG (putL blW (32 + (w : Int)) l) ((2 : Nat) : Int) 16 = true := anyG_of (x := 32 + (w : Int)) (by unfold putL; rw [if_pos rfl]; rfl) (by omega)
  have h3 : wholeG (putL blW (32 + (w : Int)) l) ((2 : Nat) : Int) 16 = false := by
    cases hq : wholeG (putL blW (32 + (w : Int)) l) ((2 : Nat) : Int) 16 with
    | false => rfl
    | true =>
      refine absurd ?_ hl
      by_cases hw0 : w = 0
      · subst hw0
        have := wholeG_pg hq (l0 := l) (by unfold putL; rw [if_pos (by omega)]) (j := 1) (by omega)
        unfold putL at this
        rw [if_neg (by omega)] at this
        unfold blW at this
        rw [if_pos (by omega)] at this
        simp only [Option.some.injEq, Prod.mk.injEq] at this
        obtain ⟨l1, l2⟩ := l
        simp only [Prod.mk.injEq] at this ⊢
        omega
      · have := wholeG_pg hq (l0 := (40, 3)) (by unfold putL; rw [if_neg (by omega)]; unfold blW; rw [if_pos (by omega)]; rfl) (j := w) (by omega)
        unfold putL at this
        rw [if_pos (by omega)] at this
        simp only [Option.some.injEq] at this
        rw [this]
  rw [tabs_grp 2 (by omega) h1 h2, h3]
  exact ⟨rfl, rfl⟩

/-- One is cut. -/
theorem del_blW (w : Nat) (hw : w < 16) : wholeG (delL blW (32 + (w : Int))) ((2 : Nat) : Int) 16 = false ∧ tabsN (delL blW (32 + (w : Int))) = 3 := by
  have h1 : ∀ x, (delL blW (32 + (w : Int)) x).isSome = true → x / 16 = ((2 : Nat) : Int) := by
    intro x hx
    unfold delL at hx
    by_cases h : x = 32 + (w : Int)
    · omega
    · rw [if_neg h] at hx; exact blW_one x hx
  have h2 : anyG (delL blW (32 + (w : Int))) ((2 : Nat) : Int) 16 = true := by
    by_cases hw0 : w = 0
    · exact anyG_of (x := 33) (by unfold delL; rw [if_neg (by omega)]; rfl) (by omega)
    · exact anyG_of (x := 32) (by unfold delL; rw [if_neg (by omega)]; rfl) (by omega)
  have h3 : wholeG (delL blW (32 + (w : Int))) ((2 : Nat) : Int) 16 = false :=
    wholeG_miss w hw (by unfold delL; rw [if_pos (by omega)])
  rw [tabs_grp 2 (by omega) h1 h2, h3]
  exact ⟨rfl, rfl⟩

/-- It is put back. -/
theorem back_blW (w : Nat) (hw : w < 16) (F : LfF) (h : ∀ x, x ≠ 32 + (w : Int) → F x = blW x) : putL F (32 + (w : Int)) (40 + (w : Int), 3) = blW := by
  funext x
  unfold putL
  by_cases hx : x = 32 + (w : Int)
  · rw [if_pos hx]; unfold blW; rw [if_pos (by omega)]; congr 2; omega
  · rw [if_neg hx]; exact h x hx

end Go.Proofs.Ytdhnfhhmacjajaa


/-
  What code and calls come to, from an abstract state: some of many abstract ends. Rules, one for each kind of code.
-/
namespace Go.Am
open Go Go.RowKit
set_option linter.unusedVariables false
set_option linter.unusedSimpArgs false

/-- No name is given from the state's own ones on, below `M`. -/
def Room (M : Nat) (ρ : Ren) (s : AState) : Prop := s.next ≤ M ∧ Fresh ρ s.next M

theorem Room.fresh {M : Nat} {ρ : Ren} {s : AState} (h : Room M ρ s) {m : Nat} (hm : m ≤ M) : Fresh ρ s.next m := h.2.mono (Nat.le_refl _) hm

abbrev CK := AExit → AAct → AState → Prop
abbrev VK := AVal → AState → Prop

section
variable {σ : Syms} {N0 : Nat} {w0 : World} {P : Program} {M : Nat}

theorem Room.post {ρ ρ' : Ren} {s s' : AState} {w w' : World} (h : Room M ρ s) (k : Post σ N0 w0 ρ s w ρ' s' w') (hm : s'.next ≤ M) : Room M ρ' s' := ⟨hm, k.fresh h.2⟩

def OutK (M : Nat) (σ : Syms) (N0 : Nat) (w0 : World) (ρ : Ren) (s : AState) (w : World) (K : CK) : Exit → Act → World → Prop :=
  fun e2 act' w' => ∃ e a' s', K e a' s' ∧ s'.next ≤ M ∧ Out σ N0 w0 ρ s w e a' s' e2 act' w'

theorem OutK.of {ρ ρ1 : Ren} {s s1 : AState} {w w1 : World} {K : CK} (h : Post σ N0 w0 ρ s w ρ1 s1 w1) (hc : Room M ρ s) (h1 : s1.next ≤ M) {e2 : Exit} {act' : Act} {w' : World} (hq : OutK M σ N0 w0 ρ1 s1 w1 K e2 act' w') : OutK M σ N0 w0 ρ s w K e2 act' w' := by
  obtain ⟨e, a', s', hk, hm, ho⟩ := hq
  exact ⟨e, a', s', hk, hm, ho.of h (hc.fresh h1)⟩

theorem OutK.mono {ρ : Ren} {s : AState} {w : World} {K K' : CK} (hk : ∀ e a s, K e a s → K' e a s) {e2 : Exit} {act' : Act} {w' : World} (hq : OutK M σ N0 w0 ρ s w K e2 act' w') : OutK M σ N0 w0 ρ s w K' e2 act' w' := by
  obtain ⟨e, a', s', h, ho⟩ := hq
  exact ⟨e, a', s', hk _ _ _ h, ho⟩

/-- What code comes to. -/
def CodeTo (M : Nat) (P : Program) (σ : Syms) (N0 : Nat) (w0 : World) (c : Code) (a : AAct) (s : AState) (K : CK) : Prop :=
  ∀ ρ w act, ARel σ ρ a act → WRel σ N0 w0 ρ s w → Room M ρ s → c.wp P (OutK M σ N0 w0 ρ s w K) act w

/-- What a call comes to. -/
def CallTo (M : Nat) (P : Program) (σ : Syms) (N0 : Nat) (w0 : World) (f : FuncId) (args : List AVal) (s : AState) (K : VK) : Prop :=
  ∀ ρ w (us : Array Value), WRel σ N0 w0 ρ s w → Room M ρ s → VRels σ ρ args us.toList →
    Calls P f us w (fun e w' => ∃ v s', K v s' ∧ s'.next ≤ M ∧ ∃ u ρ', e = .returned u ∧ VRel σ ρ' v u ∧ Post σ N0 w0 ρ s w ρ' s' w')

/-- What operations come to, one behind the other. -/
def OpsTo (M : Nat) (P : Program) (σ : Syms) (N0 : Nat) (w0 : World) (ops : Array Oper) (l : List Oper) (a : AAct) (s : AState) (K : AAct → AState → Prop) : Prop :=
  ∀ ρ w act (Q : Exit → Act → World → Prop), ARel σ ρ a act → WRel σ N0 w0 ρ s w → Room M ρ s → (∀ act' w' a' s' ρ', K a' s' → s'.next ≤ M → ARel σ ρ' a' act' → Post σ N0 w0 ρ s w ρ' s' w' → Q .normal act' w') → wpList P ops Q l act w

/-- What comes of code inside a scope. -/
def InScopeTo (M : Nat) (P : Program) (σ : Syms) (N0 : Nat) (w0 : World) (body c : Code) (a : AAct) (s : AState) (K : CK) : Prop :=
  ∀ ρ w act, ARel σ ρ a act → WRel σ N0 w0 ρ s w → Room M ρ s → ∀ b k cs, Comes' P (lone (b.at act (.code c :: .inScope body :: k)) cs w) b k cs (OutK M σ N0 w0 ρ s w K)

theorem CodeTo.mono {c : Code} {a : AAct} {s : AState} {K K' : CK} (h : CodeTo M P σ N0 w0 c a s K) (hk : ∀ e a s, K e a s → K' e a s) : CodeTo M P σ N0 w0 c a s K' :=
  fun ρ w act ha hw hc => wp_mono (h ρ w act ha hw hc) fun _ _ _ hq => hq.mono hk

theorem CallTo.mono {f : FuncId} {args : List AVal} {s : AState} {K K' : VK} (h : CallTo M P σ N0 w0 f args s K) (hk : ∀ v s, K v s → K' v s) : CallTo M P σ N0 w0 f args s K' :=
  fun ρ w us hw hc hv => (h ρ w us hw hc hv).mono fun e w' ⟨v, s', h1, h2⟩ => ⟨v, s', hk _ _ h1, h2⟩

theorem CodeTo.of_run {rec : Rec} (hrec : RunOk P σ N0 w0 rec) {c : Code} {a a' : AAct} {s s' : AState} {e : AExit} {K : CK} (h : rec (.code c a) s = .ok (.out e a', s')) (hm : s'.next ≤ M) (hk : K e a' s') : CodeTo M P σ N0 w0 c a s K :=
  fun ρ w act ha hw hc => wp_mono (hrec.code _ _ _ _ _ _ h ρ w act ha hw (hc.fresh hm)) fun _ _ _ hq => ⟨e, a', s', hk, hm, hq⟩

theorem CallTo.of_run {rec : Rec} (hrec : RunOk P σ N0 w0 rec) {f : FuncId} {args : List AVal} {s s' : AState} {v : AVal} {K : VK} (hf : plainFn P f = true) (h : rec (.call f args) s = .ok (.val v, s')) (hm : s'.next ≤ M) (hk : K v s') : CallTo M P σ N0 w0 f args s K := by
  intro ρ w us hw hc hv
  obtain ⟨v', e1, hcall⟩ := hrec.call _ _ _ _ _ h hf ρ w us hw (hc.fresh hm) hv
  cases e1
  exact hcall.mono fun e w' hq => ⟨v, s', hk, hm, hq⟩

theorem CallTo.of_prim {f : FuncId} {p : List AVal → AState → R (AVal × AState)} (hp : PrimOk P σ N0 w0 f p) {args : List AVal} {s s' : AState} {v : AVal} {K : VK} (h : p args s = .ok (v, s')) (hm : s'.next ≤ M) (hk : K v s') : CallTo M P σ N0 w0 f args s K :=
  fun ρ w us hw hc hv => (hp.sound _ _ _ _ h ρ w us hw (hc.fresh hm) hv).mono fun e w' hq => ⟨v, s', hk, hm, hq⟩

theorem OutK.one {ρ : Ren} {s : AState} {w : World} {K : CK} {e : AExit} {a : AAct} {act : Act} (hk : K e a s) (ha : ARel σ ρ a act) (hw : WRel σ N0 w0 ρ s w) (hc : Room M ρ s) : OutK M σ N0 w0 ρ s w K e.to act w :=
  ⟨e, a, s, hk, hc.1, rfl, ρ, ha, Post.refl hw⟩

theorem CodeTo.skip {a : AAct} {s : AState} {K : CK} (h : K .normal a s) : CodeTo M P σ N0 w0 .skip a s K := fun ρ w act ha hw hc => wp_skip (OutK.one h ha hw hc)
theorem CodeTo.label {l : Nat} {a : AAct} {s : AState} {K : CK} (h : K .normal a s) : CodeTo M P σ N0 w0 (.label l) a s K := fun ρ w act ha hw hc => wp_label (OutK.one h ha hw hc)
theorem CodeTo.exit {id : Nat} {a : AAct} {s : AState} {K : CK} (h : K (.exit id) a s) : CodeTo M P σ N0 w0 (.exit id) a s K := fun ρ w act ha hw hc => wp_exit (OutK.one h ha hw hc)
theorem CodeTo.goto {l : Nat} {a : AAct} {s : AState} {K : CK} (h : K (.goto l) a s) : CodeTo M P σ N0 w0 (.goto l) a s K := fun ρ w act ha hw hc => wp_goto (OutK.one h ha hw hc)
theorem CodeTo.ret {a : AAct} {s : AState} {K : CK} (h : K .ret a s) : CodeTo M P σ N0 w0 .ret a s K := fun ρ w act ha hw hc => wp_ret (OutK.one h ha hw hc)

/-- What follows code in a row: the second part, where the first one ends as it should. -/
def Then (M : Nat) (P : Program) (σ : Syms) (N0 : Nat) (w0 : World) (y : Code) (K : CK) : CK
  | .normal, a, s => CodeTo M P σ N0 w0 y a s K
  | e, a, s => K e a s

theorem CodeTo.seq {x y : Code} {a : AAct} {s : AState} {K : CK} (h : CodeTo M P σ N0 w0 x a s (Then M P σ N0 w0 y K)) : CodeTo M P σ N0 w0 (.seq x y) a s K := by
  intro ρ w act ha hw hc
  refine wp_seq (wp_mono (h ρ w act ha hw hc) fun e2 act1 w1 hq => ?_)
  obtain ⟨e, a1, s1, hk, hm, rfl, ρ1, ha1, hP⟩ := hq
  cases e with
  | normal => exact wp_mono (hk ρ1 w1 act1 ha1 hP.wrel (hc.post hP hm)) fun _ _ _ hq => hq.of hP hc hm
  | exit id => exact ⟨_, a1, s1, hk, hm, rfl, ρ1, ha1, hP⟩
  | goto l => exact ⟨_, a1, s1, hk, hm, rfl, ρ1, ha1, hP⟩
  | ret => exact ⟨_, a1, s1, hk, hm, rfl, ρ1, ha1, hP⟩

theorem CodeTo.cond {c : Operand} {x y : Code} {a : AAct} {s : AState} {K : CK} {b : Bool} (hb : aev a c = .ok (.lit (.bool b))) (h : CodeTo M P σ N0 w0 (bif b then x else y) a s K) : CodeTo M P σ N0 w0 (.cond c x y) a s K := by
  intro ρ w act ha hw hc
  have hcv : act.eval c = .bool b := asBoolLit_ok (a := .lit (.bool b)) rfl (aev_of c (fun t v _ hv => ha.get t v hv) _ hb)
  refine wp_cond hcv ?_
  cases b with
  | true => exact h ρ w act ha hw hc
  | false => exact h ρ w act ha hw hc

/-- Behind a block. -/
def OutOf (id : Nat) (K : CK) : CK
  | .exit id', a, s => K (bif Nat.beq id' id then .normal else .exit id') a s
  | e, a, s => K e a s

theorem CodeTo.block {id : Nat} {x : Code} {a : AAct} {s : AState} {K : CK} (h : CodeTo M P σ N0 w0 x a s (OutOf id K)) : CodeTo M P σ N0 w0 (.block id x) a s K := by
  intro ρ w act ha hw hc
  refine wp_block (wp_mono (h ρ w act ha hw hc) fun e2 act1 w1 hq => ?_)
  obtain ⟨e, a1, s1, hk, hm, rfl, ρ1, ha1, hP⟩ := hq
  cases e with
  | exit id' =>
    by_cases hid : id' = id
    · subst hid
      have : Nat.beq id' id' = true := Nat.beq_refl _
      simp only [AExit.to, Exit.inBlock, if_true]
      simp only [OutOf, this, cond_true] at hk
      exact ⟨_, a1, s1, hk, hm, rfl, ρ1, ha1, hP⟩
    · have : Nat.beq id' id = false := by
        cases hq : Nat.beq id' id with
        | false => rfl
        | true => exact absurd (Nat.eq_of_beq_eq_true hq) hid
      simp only [AExit.to, Exit.inBlock, hid, if_false]
      simp only [OutOf, this, cond_false] at hk
      exact ⟨_, a1, s1, hk, hm, rfl, ρ1, ha1, hP⟩
  | normal => exact ⟨_, a1, s1, hk, hm, rfl, ρ1, ha1, hP⟩
  | goto l => exact ⟨_, a1, s1, hk, hm, rfl, ρ1, ha1, hP⟩
  | ret => exact ⟨_, a1, s1, hk, hm, rfl, ρ1, ha1, hP⟩

/-- Behind a round. -/
def Round (J : AAct → AState → Prop) (K : CK) : CK
  | .normal, a, s => J a s
  | e, a, s => K e a s

theorem CodeTo.loop {x : Code} {J : Nat → AAct → AState → Prop} {K : CK} (hb : ∀ n a s, J n a s → CodeTo M P σ N0 w0 x a s (Round (fun a s => ∃ m, m < n ∧ J m a s) K)) :
    ∀ n a s, J n a s → CodeTo M P σ N0 w0 (.loop x) a s K := by
  have key : ∀ n a s, J n a s → ∀ ρ w act, ARel σ ρ a act → WRel σ N0 w0 ρ s w → Room M ρ s → ∀ b k cs, Comes' P (lone (b.at act (.code x :: .inLoop x :: k)) cs w) b k cs (OutK M σ N0 w0 ρ s w K) := by
    intro n
    induction n using Nat.strongRecOn with
    | _ n ih =>
      intro a s hJ ρ w act ha hw hc b k cs
      obtain ⟨e2, act1, w1, ⟨e, a1, s1, hk, hm, hq, ρ1, ha1, hP⟩, harr⟩ := hb n a s hJ ρ w act ha hw hc b (.inLoop x :: k) cs
      cases e with
      | normal =>
        subst hq
        obtain ⟨m, hmn, hJ1⟩ := hk
        obtain ⟨e3, act2, w2, hq2, harr2⟩ := ih m hmn a1 s1 hJ1 ρ1 w1 act1 ha1 hP.wrel (hc.post hP hm) b k cs
        exact ⟨e3, act2, w2, hq2.of hP hc hm, .of_steps (Steps.trans harr (.one step_inLoop)) harr2⟩
      | exit id => subst hq; exact ⟨_, act1, w1, ⟨_, a1, s1, hk, hm, rfl, ρ1, ha1, hP⟩, .pass (x := .inLoop x) rfl (fun _ _ => .inl (by simp [AExit.to])) harr⟩
      | goto l => subst hq; exact ⟨_, act1, w1, ⟨_, a1, s1, hk, hm, rfl, ρ1, ha1, hP⟩, .pass (x := .inLoop x) rfl (fun _ _ => .inl (by simp [AExit.to])) harr⟩
      | ret => subst hq; exact ⟨_, act1, w1, ⟨_, a1, s1, hk, hm, rfl, ρ1, ha1, hP⟩, .pass (x := .inLoop x) rfl (fun _ _ => .inl (by simp [AExit.to])) harr⟩
  intro n a s hJ ρ w act ha hw hc b k cs
  obtain ⟨e2, act', w', hq, harr⟩ := key n a s hJ ρ w act ha hw hc b k cs
  exact ⟨e2, act', w', hq, .of_steps (.one step_loop) harr⟩

/-- Behind a part of a scope. -/
def Scoped (M : Nat) (P : Program) (σ : Syms) (N0 : Nat) (w0 : World) (body : Code) (K : CK) : CK
  | .goto l, a, s => match findLabel body l with
    | some rest => InScopeTo M P σ N0 w0 body rest a s K
    | none => K (.goto l) a s
  | e, a, s => K e a s

theorem InScopeTo.of {body c : Code} {a : AAct} {s : AState} {K : CK} (h : CodeTo M P σ N0 w0 c a s (Scoped M P σ N0 w0 body K)) : InScopeTo M P σ N0 w0 body c a s K := by
  intro ρ w act ha hw hc b k cs
  obtain ⟨e2, act1, w1, ⟨e, a1, s1, hk, hm, hq, ρ1, ha1, hP⟩, harr⟩ := h ρ w act ha hw hc b (.inScope body :: k) cs
  cases e with
  | normal => subst hq; exact ⟨.normal, act1, w1, ⟨_, a1, s1, hk, hm, rfl, ρ1, ha1, hP⟩, Steps.trans harr (.one step_inScope)⟩
  | exit id => subst hq; exact ⟨.exit id, act1, w1, ⟨_, a1, s1, hk, hm, rfl, ρ1, ha1, hP⟩, fun k' hk => harr k' (by simp [exitTo, hk])⟩
  | ret => subst hq; exact ⟨.ret, act1, w1, ⟨_, a1, s1, hk, hm, rfl, ρ1, ha1, hP⟩, harr⟩
  | goto l =>
    subst hq
    simp only [Scoped] at hk
    split at hk
    · rename_i rest hl
      obtain ⟨e3, act2, w2, hq2, harr2⟩ := hk ρ1 w1 act1 ha1 hP.wrel (hc.post hP hm) b k cs
      exact ⟨e3, act2, w2, hq2.of hP hc hm, .of_steps (harr _ (by simp [gotoIn, hl])) harr2⟩
    · rename_i hl
      exact ⟨.goto l, act1, w1, ⟨_, a1, s1, hk, hm, rfl, ρ1, ha1, hP⟩, fun k' hk => harr k' (by simp [gotoIn, hl, hk])⟩

theorem CodeTo.scope {x : Code} {a : AAct} {s : AState} {K : CK} (h : InScopeTo M P σ N0 w0 x x a s K) : CodeTo M P σ N0 w0 (.scope x) a s K := by
  intro ρ w act ha hw hc b k cs
  obtain ⟨e2, act', w', hq, harr⟩ := h ρ w act ha hw hc b k cs
  exact ⟨e2, act', w', hq, .of_steps (.one step_scope) harr⟩

theorem CodeTo.region {id : Nat} {ops : Array Oper} {a : AAct} {s : AState} {K : CK} (h : OpsTo M P σ N0 w0 ops ops.toList a s (K .normal)) : CodeTo M P σ N0 w0 (.region id ops false) a s K :=
  fun ρ w act ha hw hc => wp_region_list (h ρ w act _ ha hw hc fun act' w' a' s' ρ' hk hm h1 h2 => ⟨.normal, a', s', hk, hm, rfl, ρ', h1, h2⟩)

/-! ### Operations -/
theorem OpsTo.nil {ops : Array Oper} {a : AAct} {s : AState} {K : AAct → AState → Prop} (h : K a s) : OpsTo M P σ N0 w0 ops [] a s K :=
  fun ρ w act Q ha hw hc hQ => hQ act w a s ρ h hc.1 ha (Post.refl hw)

theorem OpsTo.mono {ops : Array Oper} {l : List Oper} {a : AAct} {s : AState} {K K' : AAct → AState → Prop} (h : OpsTo M P σ N0 w0 ops l a s K) (hk : ∀ a s, K a s → K' a s) : OpsTo M P σ N0 w0 ops l a s K' :=
  fun ρ w act Q ha hw hc hQ => h ρ w act Q ha hw hc fun act' w' a' s' ρ' h1 hm h2 h3 => hQ act' w' a' s' ρ' (hk _ _ h1) hm h2 h3

theorem OpsTo.behind {ops : Array Oper} {l : List Oper} {ρ ρ1 : Ren} {s s1 : AState} {w w1 : World} {a1 : AAct} {act1 : Act} {K : AAct → AState → Prop} {Q : Exit → Act → World → Prop} (h : OpsTo M P σ N0 w0 ops l a1 s1 K)
    (ha : ARel σ ρ1 a1 act1) (hP : Post σ N0 w0 ρ s w ρ1 s1 w1) (hc : Room M ρ s) (hm : s1.next ≤ M) (hQ : ∀ act' w' a' s' ρ', K a' s' → s'.next ≤ M → ARel σ ρ' a' act' → Post σ N0 w0 ρ s w ρ' s' w' → Q .normal act' w') : wpList P ops Q l act1 w1 :=
  h ρ1 w1 act1 Q ha hP.wrel (hc.post hP hm) fun act' w' a' s' ρ' h1 hm2 h2 h3 => hQ act' w' a' s' ρ' h1 hm2 h2 (hP.trans (hc.fresh hm) h3)

/-- An operation that the machine runs. -/
theorem OpsTo.step {rec : Rec} (hrec : RunOk P σ N0 w0 rec) {ops : Array Oper} {o : Oper} {l : List Oper} {a a1 : AAct} {s s1 : AState} {K : AAct → AState → Prop} (h1 : stepOp P rec ops.toList o a s = .ok (a1, s1)) (hm : s1.next ≤ M)
    (h : OpsTo M P σ N0 w0 ops l a1 s1 K) : OpsTo M P σ N0 w0 ops (o :: l) a s K := by
  intro ρ w act Q ha hw hc hQ
  unfold stepOp at h1
  replace h1 := R.bind_ok' h1
  obtain ⟨b, hb, h1⟩ := h1
  have hwant : Region.wanted o (yielded ops act.tmps) = b := wantedA_ok hb fun t v _ hv => ha.get t v hv
  show (if Region.wanted o (yielded ops act.tmps) then _ else _)
  rw [hwant]
  cases b with
  | true =>
    rw [cond_true] at h1
    replace h1 := R.bind_ok' h1
    obtain ⟨⟨v, s2⟩, hx, h1⟩ := h1
    replace h1 := R.bind_ok' h1
    obtain ⟨a2, hp, h1⟩ := h1
    cases h1
    simp only [if_true]
    refine .inl (exec_sound hrec.toRec (r := (v, s2)) hw (hc.fresh hm) (fun x _ => aev_of x fun t v _ hv => ha.get t v hv) hx fun u w' ρ' hv hP => ?_)
    exact h.behind (ha.put hP.ext hv hp) hP hc hm hQ
  | false =>
    rw [cond_false] at h1
    replace h1 := R.bind_ok' h1
    obtain ⟨a2, hp, h1⟩ := h1
    cases h1
    simp only [Bool.false_eq_true, if_false]
    exact h.behind (ha.put (Ext.refl _) VRel.undef hp) (Post.refl hw) hc hc.1 hQ

/-- A call of a function. -/
theorem OpsTo.call {ops : Array Oper} {o : Oper} {l : List Oper} {a : AAct} {s s1 : AState} {f : FuncId} {args : List AVal} {K : AAct → AState → Prop} (hg : wantedA ops.toList a o = .ok true) (h1 : aop P (aev a) o s = .ok (.enter f args, s1)) (hm : s1.next ≤ M)
    (h : CallTo M P σ N0 w0 f args s fun v s2 => ∃ a2, a.put o.dst v = .ok a2 ∧ OpsTo M P σ N0 w0 ops l a2 s2 K) : OpsTo M P σ N0 w0 ops (o :: l) a s K := by
  intro ρ w act Q ha hw hc hQ
  have hwant : Region.wanted o (yielded ops act.tmps) = true := wantedA_ok hg fun t v _ hv => ha.get t v hv
  show (if Region.wanted o (yielded ops act.tmps) then _ else _)
  rw [hwant]
  simp only [if_true]
  left
  unfold Oper.wp
  rcases aop_sound hw (hc.fresh hm) (fun x _ => aev_of x fun t v _ hv => ha.get t v hv) h1 (by simp) with ⟨v', e1, _⟩ | ⟨f', args', us, e1, e2, hp, hv, hr⟩
  · cases e1
  · cases e1
    rw [hr, Oper.upon_enter]
    refine (h ρ w us hw hc hv).mono fun e w' ⟨v, s2, ⟨a2, hp2, hk⟩, hm2, u, ρ', he, h3, h4⟩ => ?_
    subst he
    exact hk.behind (ha.put h4.ext h3 hp2) h4 hc hm2 hQ

/-! ### The next one of a ranged map -/
/-- What comes next of a ranged map: whichever is left. -/
theorem OpsTo.next {ops : Array Oper} {o : Oper} {it : Operand} {l : List Oper} {a : AAct} {s : AState} {r m since last c : Nat} {seen : List Nat} {es : List AEntry} {K : AAct → AState → Prop} (hg : wantedA ops.toList a o = .ok true) (ho : o.op = .next it false)
    (hit : aev a it = .ok (.ptr r 0)) (hr : s.heap.get r = some (.iter (some m) since seen last)) (hm : s.heap.get m = some (.map es c)) (hold : es.all (fun e => decide (e.born < since)) = true) (hsl : since ≤ last)
    (hdone : leftA es seen = [] → ∃ a1, a.put o.dst (.tup [.lit (.bool false)]) = .ok a1 ∧ OpsTo M P σ N0 w0 ops l a1 s K)
    (hmore : ∀ e ∈ leftA es seen, vOne e.key = true ∧ ∃ s1 a1, s.write r (.iter (some m) since (seen ++ [e.born]) c) = .ok s1 ∧ a.put o.dst (.tup [.lit (.bool true), .lit e.key, e.val]) = .ok a1 ∧ OpsTo M P σ N0 w0 ops l a1 s1 K) :
    OpsTo M P σ N0 w0 ops (o :: l) a s K := by
  intro ρ w act Q ha hw hc hQ
  have hwant : Region.wanted o (yielded ops act.tmps) = true := wantedA_ok hg fun t v _ hv => ha.get t v hv
  show (if Region.wanted o (yielded ops act.tmps) then _ else _)
  rw [hwant]
  simp only [if_true]
  left
  obtain ⟨L, hL, hp⟩ := aev_of (σ := σ) (ρ := ρ) it (fun t v _ hv => ha.get t v hv) _ hit
  obtain ⟨hi0, m', hi1, hi2⟩ := hw.heap _ _ hr L hL
  cases m' with
  | none => exact hi2.elim
  | some bm =>
    obtain ⟨M1, hM, rfl⟩ := hi2
    obtain ⟨ms, hm1, hm2⟩ := hw.heap _ _ hm M1 hM
    have hleft := ERels.left (σ := σ) (ρ := ρ) seen hm2
    have hlen : (leftOf ms seen.toArray).toList = ms.toList.filter fun e => !seen.toArray.contains e.born := by unfold leftOf; rw [Array.toList_filter]
    have hold' : ∀ x ∈ ms.toList, x.born < since := fun x hx => by
      obtain ⟨e, he, _, h2, _⟩ := hm2.mem x hx
      rw [h2]
      simpa using List.all_eq_true.1 hold e he
    unfold Oper.wp
    have hex : ∀ (u : Value) (w' : World), (Instr.next (.pointer (some ⟨L.blk, 0, none⟩)) false o.type).run P w = .ok u w' → (execOp act.eval o).run P w = .ok (.value u) w' := fun u w' h => by
      unfold execOp
      rw [ho]
      show Sem.run P (do pure (Next.value (← Instr.next (act.eval it) false o.type))) w = _
      rw [hp, hi0, Nat.add_zero, Sem.run_bind, h]
      rfl
    rcases run_next_at (P := P) w o.type L.blk M1.blk since last seen.toArray ms c hi1 hm1 hold' hsl with ⟨h0, hrun⟩ | ⟨e, he, w1, hw1, hrun⟩
    · rw [hex _ _ hrun, Oper.upon_value]
      have : leftA es seen = [] := by
        have h1 := hleft.length
        rw [← hlen, Array.length_toList, h0] at h1
        exact List.length_eq_zero_iff.1 h1.symm
      obtain ⟨a1, hp1, hk⟩ := hdone this
      exact hk.behind (ha.put (Ext.refl _) (v := .tup [.lit (.bool false)]) (u := .tuple #[.bool false]) ⟨#[.bool false], rfl, .bool false, [], rfl, ⟨rfl, rfl⟩, rfl⟩ hp1) (Post.refl hw) hc hc.1 hQ
    · rw [hex _ _ hrun, Oper.upon_value]
      rw [hlen] at he
      obtain ⟨e', he', k1, k2, k3⟩ := hleft.mem e he
      obtain ⟨hk1, s1, a1, hs1, hp1, hk⟩ := hmore e' he'
      have hro : s.ro ≤ r := (write_ok' hs1).1
      have hN := (hw.rng r L hL).2.1 hro
      have hlt := (hw.rng r L hL).1
      have e1 : w1.heap = w.heap := by rcases hw1 with rfl | rfl <;> rfl
      have hbl : Below N0 w (ChangeMaps.setBlock w1 L.blk (.mapIter (some M1.blk) since (seen.toArray.push e.born) c)) := by
        have hb1 : Below N0 w w1 := by rcases hw1 with rfl | rfl; exact Below.refl _ _; exact (Below.refl _ _).drew
        refine ⟨hb1.os, hb1.tape, hb1.output, by simp [ChangeMaps.setBlock, e1], fun k hk => ?_⟩
        simp only [ChangeMaps.setBlock, e1]
        rw [Array.getElem?_setIfInBounds, if_neg (by omega)]
      have hP := Post.write hw hs1 (by rw [hr]; simp) hL hbl (by simp [ChangeMaps.setBlock, e1]) (fun k hk => by
        simp only [ChangeMaps.setBlock, e1]
        rw [Array.getElem?_setIfInBounds, if_neg (fun h => hk h.symm)]) (show ORel σ ρ L true _ (.iter (some m) since (seen ++ [e'.born]) c) from
        ⟨hi0, some M1.blk, by simp [ChangeMaps.setBlock, e1, hlt, k2], M1, hM, rfl⟩)
      refine hk.behind (ha.put (Ext.refl _) (v := .tup [.lit (.bool true), .lit e'.key, e'.val]) (u := .tuple #[.bool true, e.key, e.val]) ⟨#[.bool true, e.key, e.val], rfl, .bool true, [e.key, e.val], rfl, ⟨rfl, rfl⟩, e.key, [e.val], rfl, ⟨k1, hk1⟩, e.val, [], rfl, k3, rfl⟩ hp1) hP hc (by rw [(write_ok' hs1).2.1]; exact hc.1) hQ

/-! ### Calls -/
theorem CallTo.body {f : FuncId} {args : List AVal} {s : AState} {K : VK} {fn : Func} {body : Code} {t : Tr AVal} (hfn : P.funcs[f]? = some fn) (hb : fn.body = some body) (hn : Nat.ble args.length fn.ntmps = true ∧ Nat.ble fn.ntmps lim = true)
    (ht : ∀ j, t.get j = if 0 ≤ j ∧ j < 0 + args.length then args[j - 0]? else (Tr.leaf : Tr AVal).get j)
    (h : CodeTo M P σ N0 w0 body ⟨t, fn.ntmps⟩ s fun e a s' => (e = .normal ∨ e = .ret) ∧ ∃ vs, resA P a s' fn.results.toList = .ok vs ∧ K (retA vs) s') : CallTo M P σ N0 w0 f args s K := by
  intro ρ w us hw hc hv
  have hn1 := Nat.le_of_ble_eq_true hn.1
  have hn2 := Nat.le_of_ble_eq_true hn.2
  have ha := ARel.init (n := fn.ntmps) hv hn1 ht
  refine calls_of_wp hfn hb ?_
  refine wp_mono (h ρ w _ ha hw hc) fun e2 act' w' ⟨e, a', s', ⟨he, vs, hr, hk⟩, hm, h8, ρ', h9, h10⟩ => ?_
  obtain ⟨u, h11, h12⟩ := results_ok h9 h10.wrel hr
  have hb : act'.defers = [] ∧ ∃ v, (results fn act'.tmps).run P w' = .ok v w' ∧ ∃ v' s', K v' s' ∧ s'.next ≤ M ∧ ∃ u ρ', Ending.returned v = .returned u ∧ VRel σ ρ' v' u ∧ Post σ N0 w0 ρ s w ρ' s' w' :=
    ⟨h9.defers, u, h11, _, s', hk, hm, u, ρ', rfl, h12, h10⟩
  rcases he with rfl | rfl
  · cases h8; exact hb
  · cases h8; exact hb

/-- A loop, round by round. -/
def LoopTo (M : Nat) (P : Program) (σ : Syms) (N0 : Nat) (w0 : World) (x : Code) (a : AAct) (s : AState) (K : CK) : Prop :=
  ∀ ρ w act, ARel σ ρ a act → WRel σ N0 w0 ρ s w → Room M ρ s → ∀ b k cs, Comes' P (lone (b.at act (.code x :: .inLoop x :: k)) cs w) b k cs (OutK M σ N0 w0 ρ s w K)

theorem LoopTo.of {x : Code} {a : AAct} {s : AState} {K : CK} (h : CodeTo M P σ N0 w0 x a s (Round (fun a s => LoopTo M P σ N0 w0 x a s K) K)) : LoopTo M P σ N0 w0 x a s K := by
  intro ρ w act ha hw hc b k cs
  obtain ⟨e2, act1, w1, ⟨e, a1, s1, hk, hm, hq, ρ1, ha1, hP⟩, harr⟩ := h ρ w act ha hw hc b (.inLoop x :: k) cs
  cases e with
  | normal =>
    subst hq
    obtain ⟨e3, act2, w2, hq2, harr2⟩ := hk ρ1 w1 act1 ha1 hP.wrel (hc.post hP hm) b k cs
    exact ⟨e3, act2, w2, hq2.of hP hc hm, .of_steps (Steps.trans harr (.one step_inLoop)) harr2⟩
  | exit id => subst hq; exact ⟨_, act1, w1, ⟨_, a1, s1, hk, hm, rfl, ρ1, ha1, hP⟩, .pass (x := .inLoop x) rfl (fun _ _ => .inl (by simp [AExit.to])) harr⟩
  | goto l => subst hq; exact ⟨_, act1, w1, ⟨_, a1, s1, hk, hm, rfl, ρ1, ha1, hP⟩, .pass (x := .inLoop x) rfl (fun _ _ => .inl (by simp [AExit.to])) harr⟩
  | ret => subst hq; exact ⟨_, act1, w1, ⟨_, a1, s1, hk, hm, rfl, ρ1, ha1, hP⟩, .pass (x := .inLoop x) rfl (fun _ _ => .inl (by simp [AExit.to])) harr⟩

theorem CodeTo.loopTo {x : Code} {a : AAct} {s : AState} {K : CK} (h : LoopTo M P σ N0 w0 x a s K) : CodeTo M P σ N0 w0 (.loop x) a s K := by
  intro ρ w act ha hw hc b k cs
  obtain ⟨e2, act', w', hq, harr⟩ := h ρ w act ha hw hc b k cs
  exact ⟨e2, act', w', hq, .of_steps (.one step_loop) harr⟩

/-- A region that draws its order, run by the machine. -/
theorem CodeTo.draw {rec : Rec} (hrec : RunOk P σ N0 w0 rec) (hmx : P.follows .mixedOrders = true) {id : Nat} {ops : Array Oper} {a a1 : AAct} {s s1 : AState} {K : CK} (h : drawRun P rec ops.toList a s = .ok (a1, s1)) (hm : s1.next ≤ M) (hk : K .normal a1 s1) :
    CodeTo M P σ N0 w0 (.region id ops true) a s K :=
  fun ρ w act ha hw hc => draw_sound hrec.toRec hmx h ha hw (hc.fresh hm) fun act' w' ρ' h2 h3 => ⟨.normal, a1, s1, hk, hm, rfl, ρ', h2, h3⟩

end
end Go.Am


/-
  The machine that looks at every order in which a map may be ranged over; definitions.
-/
namespace Go.Am
open Go Go.RowKit
set_option linter.unusedVariables false
set_option linter.unusedSimpArgs false
noncomputable section

abbrev XRec (β : Type) := Task → AState → (Done → AState → R β) → R β

/-- All of them come to the same. -/
def allSame {α β : Type} (eq : β → β → Bool) (f : α → R β) (r : β) : List α → R β
  | [] => .ok r
  | x :: l => match f x with
    | .ok y => bif eq r y then allSame eq f r l else .fail "the order counts"
    | .fail w => .fail w

def nextX {β : Type} (eq : β → β → Bool) (ev : Operand → R AVal) (it : Operand) (s : AState) (k : AVal → AState → R β) : R β := do
  let (r, o) ← asPtr (← ev it)
  guardR (Nat.beq o 0) "next"
  match ← s.get r with
  | .iter none _ _ _ => k (.tup [.lit (.bool false)]) s
  | .iter (some m) since seen last => match ← s.get m with
    | .map es c => do
      guardR (Nat.ble since last && es.all fun e => Nat.blt e.born since) "next: new ones"
      let one : AEntry → R β := fun e => do
        guardR (vOne e.key) "next: key"
        let s1 ← s.write r (.iter (some m) since (seen ++ [e.born]) c)
        k (.tup [.lit (.bool true), .lit e.key, e.val]) s1
      match leftA es seen with
      | [] => k (.tup [.lit (.bool false)]) s
      | e :: l => do
        let r ← one e
        allSame eq one r l
    | _ => .fail "next"
  | _ => .fail "next"

/-- A comparison of two unknown numbers. -/
def unsure (op : Op) (vs : List AVal) : Bool := match op, vs with
  | .binOp .lss _ _ _ _, [.sym _, .sym _] => true
  | _, _ => false

def unsureR (op : Op) (vs : R (List AVal)) : Bool := match vs with
  | .ok vs => unsure op vs
  | .fail _ => false

def otherX (P : Program) (both : Bool) {β : Type} (eq : β → β → Bool) (rec : Rec) (ev : Operand → R AVal) (o : Oper) (s : AState) (k : AVal → AState → R β) : R β :=
  match aop P ev o s with
  | .ok (.val v, s1) => k v s1
  | .ok _ => .fail "a choice"
  | .fail w => bif both && unsureR o.op (evs ev o.op.operands.toList) then do
      let r ← k (.lit (.bool true)) s
      allSame eq (fun b => k (.lit (.bool b)) s) r [false]
    else do
      let p ← askA rec ev o s w
      k p.1 p.2

def callX (P : Program) {β : Type} (rec : Rec) (X : XRec β) (ev : Operand → R AVal) (o : Oper) (c : Call) (s : AState) (k : AVal → AState → R β) : R β :=
  match opCall P ev c s with
  | .ok (.val v, s1) => k v s1
  | .ok (.enter f args, s1) => X (.call f args) s1 fun d s2 => match d with
    | .val v => k v s2
    | _ => .fail "call"
  | .ok _ => .fail "a choice"
  | .fail w => do
    let p ← askA rec ev o s w
    k p.1 p.2

def opX (P : Program) (both : Bool) {β : Type} (eq : β → β → Bool) (rec : Rec) (X : XRec β) (ev : Operand → R AVal) (o : Oper) (s : AState) (k : AVal → AState → R β) : R β :=
  match o.op with
  | .next it false => nextX eq ev it s k
  | .call c => callX P rec X ev o c s k
  | _ => otherX P both eq rec ev o s k

def opsX (P : Program) (both : Bool) (M : Nat) {β : Type} (eq : β → β → Bool) (rec : Rec) (X : XRec β) (ops : List Oper) : List Oper → AAct → AState → (AAct → AState → R β) → R β
  | [], a, s, k => k a s
  | o :: rest, a, s, k => do
    let w ← wantedA ops a o
    bif w then opX P both eq rec X (aev a) o s fun v s1 => bif Nat.ble s1.next M then do
        let a1 ← a.put o.dst v
        opsX P both M eq rec X ops rest a1 s1 k
      else .fail "too many blocks"
    else do
      let a1 ← a.put o.dst aundef
      opsX P both M eq rec X ops rest a1 s k

def stepX (P : Program) (both : Bool) (M : Nat) (prims : Prims) {β : Type} (eq : β → β → Bool) (rec : Rec) (X : XRec β) : XRec β
  | .call f args, s, k => match prims f with
    | some p => do
      let (v, s1) ← p args s
      bif Nat.ble s1.next M then k (.val v) s1 else .fail "too many blocks"
    | none => do
      let fn ← R.of "no such function" P.funcs[f]?
      let body ← R.of "no body" fn.body
      guardR (Nat.ble args.length fn.ntmps && Nat.ble fn.ntmps lim) "call"
      initTmps args (nat_lit 0) .leaf fun t => X (.code body ⟨t, fn.ntmps⟩) s fun d s1 =>
        let fin : AAct → R β := fun a => do
          match ← resA P a s1 fn.results.toList with
          | [v] => k (.val v) s1
          | vs => k (.val (.tup vs)) s1
        match d with
        | .out .normal a => fin a
        | .out .ret a => fin a
        | _ => .fail "jump"
  | .code c a, s, k => match c with
    | .skip | .label _ => k (.out .normal a) s
    | .region _ ops d => bif d then do
        let p ← drawRun P rec ops.toList a s
        bif Nat.ble p.2.next M then k (.out .normal p.1) p.2 else .fail "too many blocks"
      else opsX P both M eq rec X ops.toList ops.toList a s fun a1 s1 => k (.out .normal a1) s1
    | .seq x y => X (.code x a) s fun d s1 => match d with
      | .out .normal a1 => X (.code y a1) s1 k
      | d => k d s1
    | .cond c x y => do
      let b ← asBoolLit (← aev a c)
      X (.code (bif b then x else y) a) s k
    | .block id x => X (.code x a) s fun d s1 => match d with
      | .out (.exit id') a1 => k (.out (bif Nat.beq id' id then .normal else .exit id') a1) s1
      | d => k d s1
    | .loop x => X (.code x a) s fun d s1 => match d with
      | .out .normal a1 => X (.code (.loop x) a1) s1 k
      | d => k d s1
    | .exit id => k (.out (.exit id) a) s
    | .goto l => k (.out (.goto l) a) s
    | .ret => k (.out .ret a) s
    | .scope x => X (.inscope x x a) s k
    | _ => .fail "code"
  | .ask o vs, s, k => .fail "ask"
  | .inscope body c a, s, k => X (.code c a) s fun d s1 => match d with
    | .out (.goto l) a1 => match findLabel body l with
      | some rest => X (.inscope body rest a1) s1 k
      | none => k (.out (.goto l) a1) s1
    | d => k d s1

def runX (P : Program) (both : Bool) (M : Nat) (prims : Prims) {β : Type} (eq : β → β → Bool) (rec : Rec) (n : Nat) : XRec β :=
  Nat.rec (fun _ _ _ => .fail "fuel") (fun _ ih => stepX P both M prims eq rec ih) n

end
end Go.Am


/-
  The machine that looks at every order is sound.
-/
namespace Go.Am
open Go Go.RowKit
set_option linter.unusedVariables false
set_option linter.unusedSimpArgs false

section
variable {σ : Syms} {N0 : Nat} {w0 : World} {P : Program} {M : Nat} {both : Bool} {β : Type} {eq : β → β → Bool} {rec : Rec} {X : XRec β} {prims : Prims}

structure XOk (M : Nat) (P : Program) (σ : Syms) (N0 : Nat) (w0 : World) {β : Type} (X : XRec β) : Prop where
  call : ∀ f args s k r, X (.call f args) s k = .ok r → plainFn P f = true → CallTo M P σ N0 w0 f args s (fun v s' => k (.val v) s' = .ok r)
  code : ∀ c a s k r, X (.code c a) s k = .ok r → CodeTo M P σ N0 w0 c a s (fun e a s' => k (.out e a) s' = .ok r)
  loop : ∀ x a s k r, X (.code (.loop x) a) s k = .ok r → LoopTo M P σ N0 w0 x a s (fun e a s' => k (.out e a) s' = .ok r)
  scope : ∀ body c a s k r, X (.inscope body c a) s k = .ok r → InScopeTo M P σ N0 w0 body c a s (fun e a s' => k (.out e a) s' = .ok r)

theorem allSame_ok (heq : ∀ x y, eq x y = true → x = y) {α : Type} {f : α → R β} {r q : β} : ∀ {l : List α}, allSame eq f r l = .ok q → q = r ∧ ∀ x ∈ l, f x = .ok r
  | [], h => by cases h; exact ⟨rfl, fun x hx => by cases hx⟩
  | x :: l, h => by
    unfold allSame at h
    split at h
    · rename_i y hy
      cases hq : eq r y with
      | false => rw [hq] at h; cases h
      | true =>
        rw [hq, cond_true] at h
        obtain ⟨h1, h2⟩ := allSame_ok heq h
        have := heq _ _ hq
        subst this
        refine ⟨h1, fun z hz => ?_⟩
        rcases List.mem_cons.1 hz with rfl | hz
        · exact hy
        · exact h2 z hz
    · cases h

theorem R.ok_bind {α β : Type} {x : α} {f : α → R β} : (R.ok x >>= f) = f x := rfl

theorem stepOp_of {ops : List Oper} {o : Oper} {a a1 : AAct} {s s1 : AState} {v : AVal} (hg : wantedA ops a o = .ok true) (hx : execA P rec (aev a) o s = .ok (v, s1)) (hp : a.put o.dst v = .ok a1) : stepOp P rec ops o a s = .ok (a1, s1) := by
  unfold stepOp
  rw [hg, R.ok_bind, cond_true, hx, R.ok_bind, hp, R.ok_bind]

theorem opCall_enter {ev : Operand → R AVal} {c : Call} {s s1 : AState} {f : FuncId} {args : List AVal} (h : opCall P ev c s = .ok (.enter f args, s1)) : s1 = s ∧ plainFn P f = true := by
  unfold opCall at h
  replace h := R.bind_ok' h
  obtain ⟨args', h1, h⟩ := h
  split at h
  · replace h := R.bind_ok' h
    obtain ⟨⟨v, s2⟩, h2, h⟩ := h
    obtain ⟨h3, _⟩ := okv_ok h
    cases h3
  · replace h := R.bind_ok' h
    obtain ⟨fv, h2, h⟩ := h
    split at h
    · replace h := R.bind_ok' h
      obtain ⟨_, h3, h⟩ := h
      cases h
      exact ⟨rfl, guardR_ok h3⟩
    · cases h
  · cases h

theorem nextX_ok (hrec : RunOk P σ N0 w0 rec) (heq : ∀ x y, eq x y = true → x = y) {ops : Array Oper} {o : Oper} {l : List Oper} {a : AAct} {s : AState} {it : Operand} {k : AVal → AState → R β} {r : β} {K : AAct → AState → Prop} (ho : o.op = .next it false)
    (hg : wantedA ops.toList a o = .ok true) (h : nextX eq (aev a) it s k = .ok r) (hk : ∀ v s1, k v s1 = .ok r → s1.next ≤ M ∧ ∃ a1, a.put o.dst v = .ok a1 ∧ OpsTo M P σ N0 w0 ops l a1 s1 K) : OpsTo M P σ N0 w0 ops (o :: l) a s K := by
  unfold nextX at h
  replace h := R.bind_ok' h
  obtain ⟨x, h1, h⟩ := h
  replace h := R.bind_ok' h
  obtain ⟨⟨rr, oo⟩, h2, h⟩ := h
  replace h := R.bind_ok' h
  obtain ⟨_, h3, h⟩ := h
  replace h := R.bind_ok' h
  obtain ⟨ob, h4, h⟩ := h
  have h3 := Nat.eq_of_beq_eq_true (guardR_ok h3)
  replace h3 : oo = 0 := h3
  subst h3
  have hit : aev a it = .ok (.ptr rr 0) := by
    rw [h1]
    unfold asPtr at h2
    split at h2
    · cases h2; rfl
    · cases h2
  split at h
  · rename_i since seen last
    obtain ⟨hm, a1, hp, hK⟩ := hk _ _ h
    refine OpsTo.step hrec (stepOp_of (v := .tup [.lit (.bool false)]) hg ?_ hp) hm hK
    have : aop P (aev a) o s = .ok (.val (.tup [.lit (.bool false)]), s) := by
      unfold aop
      rw [ho]
      show opNext (aev a) it s = _
      unfold opNext
      rw [hit]
      show (s.get rr).bind _ = _
      rw [h4]
      rfl
    unfold execA
    rw [this]
  · rename_i m since seen last
    replace h := R.bind_ok' h
    obtain ⟨mo, h5, h⟩ := h
    split at h
    · rename_i es c
      replace h := R.bind_ok' h
      obtain ⟨_, h6, h⟩ := h
      have h6 := guardR_ok h6
      simp only [Bool.and_eq_true] at h6
      have hsl := Nat.le_of_ble_eq_true h6.1
      have hold : es.all (fun e => decide (e.born < since)) = true := by
        rw [List.all_eq_true]
        intro e he
        have := List.all_eq_true.1 h6.2 e he
        exact decide_eq_true (Nat.le_of_ble_eq_true this)
      have one : ∀ (e : AEntry), (do
          guardR (vOne e.key) "next: key"
          let s1 ← s.write rr (.iter (some m) since (seen ++ [e.born]) c)
          k (.tup [.lit (.bool true), .lit e.key, e.val]) s1 : R β) = .ok r → vOne e.key = true ∧ ∃ s1 a1, s.write rr (.iter (some m) since (seen ++ [e.born]) c) = .ok s1 ∧ a.put o.dst (.tup [.lit (.bool true), .lit e.key, e.val]) = .ok a1 ∧ OpsTo M P σ N0 w0 ops l a1 s1 K := fun e h => by
        replace h := R.bind_ok' h
        obtain ⟨_, h7, h⟩ := h
        replace h := R.bind_ok' h
        obtain ⟨s1, h8, h⟩ := h
        obtain ⟨_, a1, hp, hK⟩ := hk _ _ h
        exact ⟨guardR_ok h7, s1, a1, h8, hp, hK⟩
      refine OpsTo.next hg ho hit (get_ok h4) (get_ok h5) hold hsl (fun hl => ?_) fun e he => ?_
      · rw [hl] at h
        obtain ⟨_, a1, hp, hK⟩ := hk _ _ h
        exact ⟨a1, hp, hK⟩
      · split at h
        · rename_i hl
          rw [hl] at he
          cases he
        · rename_i e0 l0 hl
          rw [hl] at he
          replace h := R.bind_ok' h
          obtain ⟨r1, h7, h⟩ := h
          obtain ⟨h8, h9⟩ := allSame_ok heq h
          subst h8
          refine one e ?_
          rcases List.mem_cons.1 he with rfl | he
          · exact h7
          · exact h9 e he
    · cases h
  · cases h

theorem ask_step (hrec : RunOk P σ N0 w0 rec) {ops : Array Oper} {o : Oper} {l : List Oper} {a : AAct} {s : AState} {w : String} {k : AVal → AState → R β} {r : β} {K : AAct → AState → Prop} (h1 : aop P (aev a) o s = .fail w)
    (hg : wantedA ops.toList a o = .ok true) (h : (do let p ← askA rec (aev a) o s w; k p.1 p.2) = .ok r) (hk : ∀ v s1, k v s1 = .ok r → s1.next ≤ M ∧ ∃ a1, a.put o.dst v = .ok a1 ∧ OpsTo M P σ N0 w0 ops l a1 s1 K) : OpsTo M P σ N0 w0 ops (o :: l) a s K := by
  replace h := R.bind_ok' h
  obtain ⟨⟨v, s1⟩, h2, h⟩ := h
  obtain ⟨hm, a1, hp, hK⟩ := hk _ _ h
  refine OpsTo.step hrec (stepOp_of (v := v) hg ?_ hp) hm hK
  unfold execA
  rw [h1]
  exact h2

theorem val_step (hrec : RunOk P σ N0 w0 rec) {ops : Array Oper} {o : Oper} {l : List Oper} {a : AAct} {s s1 : AState} {v : AVal} {k : AVal → AState → R β} {r : β} {K : AAct → AState → Prop} (h1 : aop P (aev a) o s = .ok (.val v, s1))
    (hg : wantedA ops.toList a o = .ok true) (h : k v s1 = .ok r) (hk : ∀ v s1, k v s1 = .ok r → s1.next ≤ M ∧ ∃ a1, a.put o.dst v = .ok a1 ∧ OpsTo M P σ N0 w0 ops l a1 s1 K) : OpsTo M P σ N0 w0 ops (o :: l) a s K := by
  obtain ⟨hm, a1, hp, hK⟩ := hk _ _ h
  refine OpsTo.step hrec (stepOp_of (v := v) hg ?_ hp) hm hK
  unfold execA
  rw [h1]

theorem unsure_run {o : Oper} {op : BinOp} {act : Act} {w : World} {t yt : TypeId} {x y : Operand} {i j : Nat} (ho : o.op = .binOp .lss t x y yt) (hk : (σ i).1 = (σ j).1) (hx : act.eval x = .int (σ i).1 (σ i).2) (hy : act.eval y = .int (σ j).1 (σ j).2) :
    (execOp act.eval o).run P w = .ok (.value (.bool (decide ((σ i).2 < (σ j).2)))) w := by
  unfold execOp
  rw [ho]
  simp only []
  rw [hx, hy, ← hk, Sem.run_bind]
  have : (do eqGuard .lss t x y (.int (σ i).1 (σ i).2) (.int (σ i).1 (σ j).2); binOp .lss t (.int (σ i).1 (σ i).2) (.int (σ i).1 (σ j).2) : Sem Value).run P w = .ok (.bool (decide ((σ i).2 < (σ j).2))) w := by
    rw [Sem.run_bind]
    have h1 : (eqGuard .lss t x y (.int (σ i).1 (σ i).2) (.int (σ i).1 (σ j).2)).run P w = .ok () w := by simp [eqGuard]
    rw [h1, Result.andThen_ok, binOp_lss, Sem.run_pure]
  rw [this]
  rfl

theorem opX_ok (hb : both = true → ∀ i j, (σ i).1 = (σ j).1) (hrec : RunOk P σ N0 w0 rec) (hX : XOk M P σ N0 w0 X) (heq : ∀ x y, eq x y = true → x = y) {ops : Array Oper} {o : Oper} {l : List Oper} {a : AAct} {s : AState} {k : AVal → AState → R β} {r : β} {K : AAct → AState → Prop}
    (hg : wantedA ops.toList a o = .ok true) (h : opX P both eq rec X (aev a) o s k = .ok r) (hk : ∀ v s1, k v s1 = .ok r → s1.next ≤ M ∧ ∃ a1, a.put o.dst v = .ok a1 ∧ OpsTo M P σ N0 w0 ops l a1 s1 K) : OpsTo M P σ N0 w0 ops (o :: l) a s K := by
  unfold opX at h
  split at h
  · rename_i it ho
    exact nextX_ok hrec heq ho hg h hk
  · rename_i c ho
    have hc : aop P (aev a) o s = opCall P (aev a) c s := by unfold aop; rw [ho]
    unfold callX at h
    split at h
    · rename_i v s1 h1
      exact val_step hrec (hc.trans h1) hg h hk
    · rename_i f args s1 h1
      obtain ⟨rfl, hpl⟩ := opCall_enter h1
      intro ρ w act Q ha hw hr hQ
      exact OpsTo.call hg (hc.trans h1) hr.1 ((hX.call _ _ _ _ _ h hpl).mono fun v s2 h2 => (hk v s2 h2).2) ρ w act Q ha hw hr hQ
    · cases h
    · rename_i w h1
      exact ask_step hrec (hc.trans h1) hg h hk
  · unfold otherX at h
    split at h
    · rename_i v s1 h1
      exact val_step hrec h1 hg h hk
    · cases h
    · rename_i w h1
      cases hq : (both && unsureR o.op (evs (aev a) o.op.operands.toList)) with
      | false => rw [hq, cond_false] at h; exact ask_step hrec h1 hg h hk
      | true =>
        rw [hq, cond_true] at h
        simp only [Bool.and_eq_true] at hq
        replace h := R.bind_ok' h
        obtain ⟨r1, h2, h⟩ := h
        obtain ⟨h3, h4⟩ := allSame_ok heq h
        subst h3
        have h5 : ∀ b : Bool, k (.lit (.bool b)) s = .ok r := fun b => by
          cases b with
          | true => exact h2
          | false => exact h4 false (by simp)
        have hu := hq.2
        unfold unsureR at hu
        split at hu
        · rename_i vs hvs
          unfold unsure at hu
          split at hu
          · rename_i t x y yt i j hop
            intro ρ w1 act Q ha hw hr hQ
            have hwant : Region.wanted o (yielded ops act.tmps) = true := wantedA_ok hg fun t v _ hv => ha.get t v hv
            show (if Region.wanted o (yielded ops act.tmps) then _ else _)
            rw [hwant]
            simp only [if_true]
            left
            have hop' : o.op.operands.toList = [x, y] := by rw [hop]; simp [Op.operands]
            have hv := evs_ok (σ := σ) (ρ := ρ) (e := act.eval) (fun z _ => aev_of z fun t v _ hv => ha.get t v hv) hvs
            rw [hop'] at hv
            obtain ⟨u1, q1, e1, hu1, u2, q2, e2, hu2, e3⟩ := hv
            simp only [List.map_cons, List.map_nil, List.cons.injEq] at e1
            obtain ⟨e1, e1'⟩ := e1
            rw [← e1'] at e2
            simp only [List.cons.injEq] at e2
            unfold Oper.wp
            rw [unsure_run (σ := σ) (op := .lss) (i := i) (j := j) hop (hb hq.1 i j) (e1.trans hu1) (e2.1.trans hu2), Oper.upon_value]
            obtain ⟨hm, a1, hp, hK⟩ := hk _ _ (h5 (decide ((σ i).2 < (σ j).2)))
            exact hK.behind (ha.put (Ext.refl _) (v := .lit (.bool (decide ((σ i).2 < (σ j).2)))) ⟨rfl, rfl⟩ hp) (Post.refl hw) hr hr.1 hQ
          · cases hu
        · cases hu

theorem opsX_ok (hb : both = true → ∀ i j, (σ i).1 = (σ j).1) (hrec : RunOk P σ N0 w0 rec) (hX : XOk M P σ N0 w0 X) (heq : ∀ x y, eq x y = true → x = y) {ops : Array Oper} {r : β} : ∀ {l : List Oper} {a : AAct} {s : AState} {k : AAct → AState → R β},
    opsX P both M eq rec X ops.toList l a s k = .ok r → OpsTo M P σ N0 w0 ops l a s fun a' s' => k a' s' = .ok r
  | [], a, s, k, h => OpsTo.nil h
  | o :: l, a, s, k, h => by
    unfold opsX at h
    replace h := R.bind_ok' h
    obtain ⟨b, hg, h⟩ := h
    cases b with
    | true =>
      rw [cond_true] at h
      refine opX_ok hb hrec hX heq hg h fun v s1 h1 => ?_
      cases hq : Nat.ble s1.next M with
      | false => rw [hq] at h1; cases h1
      | true =>
        rw [hq, cond_true] at h1
        replace h1 := R.bind_ok' h1
        obtain ⟨a1, hp, h1⟩ := h1
        exact ⟨Nat.le_of_ble_eq_true hq, a1, hp, opsX_ok hb hrec hX heq h1⟩
    | false =>
      rw [cond_false] at h
      replace h := R.bind_ok' h
      obtain ⟨a1, hp, h⟩ := h
      intro ρ w act Q ha hw hc hQ
      refine OpsTo.step hrec (a1 := a1) (s1 := s) ?_ hc.1 (opsX_ok hb hrec hX heq h) ρ w act Q ha hw hc hQ
      unfold stepOp
      rw [hg, R.ok_bind, cond_false, hp, R.ok_bind]

theorem stepX_call (hrec : RunOk P σ N0 w0 rec) (hX : XOk M P σ N0 w0 X) (hp : ∀ f p, prims f = some p → PrimOk P σ N0 w0 f p) : ∀ f args s k r, stepX P both M prims eq rec X (.call f args) s k = .ok r → CallTo M P σ N0 w0 f args s (fun v s' => k (.val v) s' = .ok r) := by
  intro f args s k r h
  unfold stepX at h
  simp only [] at h
  split at h
  · rename_i p hpf
    replace h := R.bind_ok' h
    obtain ⟨⟨v, s1⟩, h1, h⟩ := h
    replace h : (bif Nat.ble s1.next M then k (.val v) s1 else .fail "too many blocks") = .ok r := h
    cases hq : Nat.ble s1.next M with
    | false => rw [hq] at h; cases h
    | true =>
      rw [hq, cond_true] at h
      exact CallTo.of_prim (hp f p hpf) h1 (Nat.le_of_ble_eq_true hq) h
  · replace h := R.bind_ok' h
    obtain ⟨fn, h1, h⟩ := h
    replace h := R.bind_ok' h
    obtain ⟨body, h2, h⟩ := h
    replace h := R.bind_ok' h
    obtain ⟨_, h3, h⟩ := h
    replace h3 := guardR_ok h3
    simp only [Bool.and_eq_true] at h3
    have hn1 := Nat.le_of_ble_eq_true h3.1
    have hn2 := Nat.le_of_ble_eq_true h3.2
    obtain ⟨t, h5, ht⟩ := initTmps_ok h (by omega)
    refine CallTo.body (R.of_ok h1) (R.of_ok h2) h3 ht ((hX.code _ _ _ _ _ h5).mono fun e a s' h6 => ?_)
    have fin : ∀ {x : R (List AVal)}, (x >>= fun vs => (match vs with | [v] => k (.val v) s' | vs => k (.val (.tup vs)) s' : R β)) = .ok r → ∃ vs, x = .ok vs ∧ k (.val (retA vs)) s' = .ok r := fun {x} h => by
      replace h := R.bind_ok' h
      obtain ⟨vs, h7, h⟩ := h
      refine ⟨vs, h7, ?_⟩
      cases vs with
      | nil => exact h
      | cons v q => cases q with
        | nil => exact h
        | cons v' q' => exact h
    cases e with
    | normal => exact ⟨.inl rfl, fin h6⟩
    | ret => exact ⟨.inr rfl, fin h6⟩
    | exit id => cases h6
    | goto l => cases h6

theorem stepX_loop (hX : XOk M P σ N0 w0 X) : ∀ x a s k r, stepX P both M prims eq rec X (.code (.loop x) a) s k = .ok r → LoopTo M P σ N0 w0 x a s (fun e a s' => k (.out e a) s' = .ok r) := by
  intro x a s k r h
  refine LoopTo.of ((hX.code _ _ _ _ _ h).mono fun e a1 s1 h1 => ?_)
  cases e with
  | normal => exact hX.loop _ _ _ _ _ h1
  | exit id => exact h1
  | goto l => exact h1
  | ret => exact h1

theorem stepX_scope (hX : XOk M P σ N0 w0 X) : ∀ body c a s k r, stepX P both M prims eq rec X (.inscope body c a) s k = .ok r → InScopeTo M P σ N0 w0 body c a s (fun e a s' => k (.out e a) s' = .ok r) := by
  intro body c a s k r h
  refine InScopeTo.of ((hX.code _ _ _ _ _ h).mono fun e a1 s1 h1 => ?_)
  cases e with
  | goto l =>
    simp only [Scoped]
    split
    · rename_i rest hl
      simp only [hl] at h1
      exact hX.scope _ _ _ _ _ _ h1
    · rename_i hl
      simp only [hl] at h1
      exact h1
  | normal => exact h1
  | exit id => exact h1
  | ret => exact h1

theorem stepX_code (hb : both = true → ∀ i j, (σ i).1 = (σ j).1) (hm : P.follows .mixedOrders = true) (hrec : RunOk P σ N0 w0 rec) (hX : XOk M P σ N0 w0 X) (heq : ∀ x y, eq x y = true → x = y) :
    ∀ c a s k r, stepX P both M prims eq rec X (.code c a) s k = .ok r → CodeTo M P σ N0 w0 c a s (fun e a s' => k (.out e a) s' = .ok r) := by
  intro c a s k r h
  cases c with
  | skip => exact CodeTo.skip h
  | label l => exact CodeTo.label h
  | exit id => exact CodeTo.exit h
  | goto l => exact CodeTo.goto h
  | ret => exact CodeTo.ret h
  | region id ops d =>
    cases d with
    | true =>
      replace h := R.bind_ok' h
      obtain ⟨⟨a1, s1⟩, h1, h⟩ := h
      replace h : (bif Nat.ble s1.next M then k (.out .normal a1) s1 else .fail "too many blocks") = .ok r := h
      cases hq : Nat.ble s1.next M with
      | false => rw [hq] at h; cases h
      | true =>
        rw [hq, cond_true] at h
        exact CodeTo.draw hrec hm h1 (Nat.le_of_ble_eq_true hq) h
    | false => exact CodeTo.region (opsX_ok hb hrec hX heq h)
  | seq x y =>
    refine CodeTo.seq ((hX.code _ _ _ _ _ h).mono fun e a1 s1 h1 => ?_)
    cases e with
    | normal => exact hX.code _ _ _ _ _ h1
    | exit id => exact h1
    | goto l => exact h1
    | ret => exact h1
  | cond c x y =>
    replace h := R.bind_ok' h
    obtain ⟨v, h1, h⟩ := h
    replace h := R.bind_ok' h
    obtain ⟨b, h2, h⟩ := h
    have hv : v = .lit (.bool b) := by
      unfold asBoolLit at h2
      split at h2
      · cases h2; rfl
      · cases h2
    subst hv
    exact CodeTo.cond h1 (hX.code _ _ _ _ _ h)
  | block id x =>
    refine CodeTo.block ((hX.code _ _ _ _ _ h).mono fun e a1 s1 h1 => ?_)
    cases e with
    | normal => exact h1
    | exit id => exact h1
    | goto l => exact h1
    | ret => exact h1
  | loop x => exact CodeTo.loopTo (stepX_loop (both := both) (prims := prims) (eq := eq) (rec := rec) hX x a s k r h)
  | scope x => exact CodeTo.scope (hX.scope _ _ _ _ _ _ h)
  | _ => cases h

theorem runX_ok (hb : both = true → ∀ i j, (σ i).1 = (σ j).1) (hm : P.follows .mixedOrders = true) (hrec : RunOk P σ N0 w0 rec) (heq : ∀ x y, eq x y = true → x = y) (hp : ∀ f p, prims f = some p → PrimOk P σ N0 w0 f p) : ∀ n, XOk M P σ N0 w0 (runX P both M prims eq rec n)
  | 0 => ⟨fun f args s k r h => (by cases h), fun c a s k r h => (by cases h), fun x a s k r h => (by cases h), fun body c a s k r h => (by cases h)⟩
  | n + 1 =>
    have ih := runX_ok hb hm hrec heq hp n
    ⟨fun f args s k r h _ => stepX_call (both := both) (eq := eq) hrec ih hp f args s k r h, stepX_code (prims := prims) hb hm hrec ih heq, stepX_loop (both := both) (prims := prims) (eq := eq) (rec := rec) ih, stepX_scope (both := both) (prims := prims) (eq := eq) (rec := rec) ih⟩

end
end Go.Am
