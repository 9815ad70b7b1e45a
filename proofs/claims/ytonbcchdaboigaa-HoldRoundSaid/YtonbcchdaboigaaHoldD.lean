/-
  Package hold: Put.
-/
import Derived.Test.YtonbcchdaboigaaHoldC
namespace Go.Proofs.Ytonbcchdaboigaa
open Go Go.RowKit Go.Maps Go.Am
set_option linter.unusedVariables false

/-- Leaves that come in. -/
def LeavesIn (w : World) (b off : Nat) (ls : List (Int × Int)) : Prop := ∀ j, j < ls.length → w.cell? ⟨b, off + j * 2, none⟩ = some (.int .i64 (ls.getD j (0, 0)).1) ∧ w.cell? ⟨b, off + j * 2 + 1, none⟩ = some (.int .i64 (ls.getD j (0, 0)).2) ∧ (Lit.int .i64 (ls.getD j (0, 0)).1).wf = true ∧ (Lit.int .i64 (ls.getD j (0, 0)).2).wf = true

/-- Leaves put. -/
def putsF (f : PgF) (a : Int) (ls : List (Int × Int)) (st mk : Int) : PgF := fun k => if a ≤ k ∧ k < a + ls.length then (ls[(k - a).toNat]?).map (fun x => ⟨x.1, x.2, st, mk⟩) else f k

theorem putsF_snoc {f : PgF} {a : Int} {ls : List (Int × Int)} {st mk : Int} {x : Int × Int} : putP (putsF f a ls st mk) (a + ls.length) ⟨x.1, x.2, st, mk⟩ = putsF f a (ls ++ [x]) st mk := by
  funext k
  unfold putP putsF
  by_cases e : k = a + ls.length
  · subst e
    have h1 : a ≤ a + ls.length ∧ a + (ls.length : Int) < a + (ls ++ [x]).length := by simp; omega
    have h2 : (a + (ls.length : Int) - a).toNat = ls.length := by omega
    rw [if_pos rfl, if_pos h1, h2]
    simp
  · rw [if_neg e]
    by_cases h1 : a ≤ k ∧ k < a + ls.length
    · have h2 : a ≤ k ∧ k < a + (ls ++ [x]).length := by simp; omega
      rw [if_pos h1, if_pos h2, List.getElem?_append_left (by omega)]
    · have h2 : ¬ (a ≤ k ∧ k < a + (ls ++ [x]).length) := by simp; omega
      rw [if_neg h1, if_neg h2]

theorem putsF_nil {f : PgF} {a : Int} {st mk : Int} : putsF f a [] st mk = f := by
  funext k
  unfold putsF
  rw [if_neg (by simp)]

theorem take_snoc2 {l : List (Int × Int)} {j : Nat} (h : j < l.length) : l.take (j + 1) = l.take j ++ [l.getD j (0, 0)] := by
  rw [List.take_add_one, List.getElem?_eq_getElem h, List.getD_eq_getElem?_getD, List.getElem?_eq_getElem h]; rfl

theorem wf_small {a : Int} (h0 : 0 ≤ a) (h1 : a < 1000000) : (Lit.int .i64 a).wf = true := by
  simp only [Lit.wf, Bool.and_eq_true, decide_eq_true_eq]
  have hm : IntKind.i64.min = -9223372036854775808 := by decide
  have hM : IntKind.i64.max = 9223372036854775807 := by decide
  rw [hm, hM]
  omega

theorem putsF_rng {f : PgF} {a : Int} {ls : List (Int × Int)} {st mk : Int} (h : ∀ k r, f k = some r → 0 ≤ k ∧ k < 3840) (ha : 0 ≤ a) (ha' : a + ls.length ≤ 3840) : ∀ k r, putsF f a ls st mk k = some r → 0 ≤ k ∧ k < 3840 := by
  intro k r hk
  unfold putsF at hk
  split at hk
  · omega
  · exact h k r hk

theorem putsF_wf {w : World} {b off : Nat} {f : PgF} {a : Int} {ls : List (Int × Int)} {st mk : Int} (h : ∀ k r, f k = some r → (Lit.int .i64 r.frame).wf = true ∧ (Lit.int .i64 r.perm).wf = true ∧ (Lit.int .i64 r.state).wf = true ∧ (Lit.int .u64 r.mark).wf = true)
    (hz : LeavesIn w b off ls) (hst : (Lit.int .i64 st).wf = true) (hmk : (Lit.int .u64 mk).wf = true) : ∀ k r, putsF f a ls st mk k = some r → (Lit.int .i64 r.frame).wf = true ∧ (Lit.int .i64 r.perm).wf = true ∧ (Lit.int .i64 r.state).wf = true ∧ (Lit.int .u64 r.mark).wf = true := by
  intro k r hk
  unfold putsF at hk
  split at hk
  · obtain ⟨x, hx, rfl⟩ := Option.map_eq_some_iff.1 hk
    obtain ⟨hlt, hx'⟩ := List.getElem?_eq_some_iff.1 hx
    have := hz (k - a).toNat hlt
    have e : ls.getD (k - a).toNat (0, 0) = x := by rw [List.getD_eq_getElem?_getD, hx]; rfl
    rw [e] at this
    exact ⟨this.2.2.1, this.2.2.2, hst, hmk⟩
  · exact h k r hk

set_option maxRecDepth 100000 in
set_option maxHeartbeats 4000000 in
theorem put_ok (B g cap m n : Nat) (bs : Nat → Nat) (fs : Nat → PgF) (i : Nat) (b off c : Nat) (a mark : Int) (ls : List (Int × Int)) (w : World) (h : HoldAt w B g cap m n bs fs) (hi : i < m) (hm : m ≤ 1000) (hn : n ≤ 100000) (hz : LeavesIn w b off ls) (hl : ls.length ≤ 100) (h0 : 0 < ls.length)
    (ha : 0 ≤ a) (ha' : a + ls.length ≤ 3840) (st : Int) (hst : (mark = 0 ∧ st = 1) ∨ (mark ≠ 0 ∧ st = 4)) (hmark : (Lit.int .u64 mark).wf = true) (hnb : ∀ i, i < m → bs i ≠ b) (hfree : ∀ j : Nat, j < ls.length → fs i (a + j) = none) :
    Calls Try.prog 25 #[.pointer (some ⟨B, 0, none⟩), .int .i64 i, .int .i64 a, .slice (some ⟨b, off, none⟩) ls.length c, .int .u64 mark] w fun e w' => e = .returned (.int .i64 0) ∧ HoldAt w' B g cap m (n + ls.length) bs (setF fs i (putsF (fs i) a ls st mark)) ∧ GrowBut w w' [bs i] := by
  have hO := of_in B g cap m n bs fs i w h hi hm
  have hl0 : ((ls.length : Int) == 0) = false := by rw [beq_eq_false_iff_ne]; omega
  have ha0 : decide (a < 0) = false := decide_eq_false (by omega)
  have ha1 : decide (3840 - (ls.length : Int) < a) = false := decide_eq_false (by omega)
  have heq := eqMap (bs i)
  go_enter Try.func25, Try.ntmps25
  go_wp2_with (first
    | (go_at_call 80; refine hO.mono ?_; rintro e w1 ⟨rfl, hw1⟩; rw [hw1]; clear hw1 w1)
    | go_in)
  clear heq hO
  go_loopw [41] (fun v41 wx => ∃ j : Nat, v41 = .int .i64 j ∧ j ≤ ls.length ∧ GrowBut w wx []) (fun v41 _ => ls.length - intN v41)
  case atStart => exact ⟨0, rfl, by omega, .refl _ _⟩
  case round =>
    obtain ⟨j, rfl, hj, hG⟩ := hrel
    by_cases hlt : j < ls.length
    · have hlt' : (j : Int) < (ls.length : Int) := by omega
      have hTj := (h.tabs i hi).kept hG (by simp)
      have hwx : (Lit.int .i64 (a + j)).wf = true := wf_small (by omega) (by omega)
      have hlk := hTj.look_ok (t := 119) (e := 46) keyH Try.underlying3 Try.underlying119 (zeroP _) hwx
      rw [(tab_val _ _).1, (tab_val _ _).2, hfree j hlt] at hlk
      simp only [encP, Option.getD_none, Option.isSome_none] at hlk
      go_wp2_with go_in
      exact ⟨⟨j + 1, by simp, by omega, hG.trans (GrowBut.alloc _ _ _)⟩, by simp [intN]; omega⟩
    · have hge : ¬ (j : Int) < (ls.length : Int) := by omega
      have hjl : j = ls.length := by omega
      subst hjl
      rcases hst with ⟨rfl, rfl⟩ | ⟨hm0, rfl⟩
      · go_wp2_with go_in
        have hT2 := ((h.tabs i hi).kept hG (by simp))
        have hTe : tabP (fs i) = tabP (putsF (fs i) a (ls.take 0) 1 0) := by rw [List.take_zero, putsF_nil]
        rw [hTe] at hT2
        clear hTe
        go_loopw [58] (fun v58 wx => ∃ j : Nat, v58 = .int .i64 j ∧ j ≤ ls.length ∧ TabAt wx .i64 3 (bs i) (n + j) (tabP (putsF (fs i) a (ls.take j) 1 0)) ∧ GrowBut w wx [bs i]) (fun v58 _ => ls.length - intN v58)
        case atStart => exact ⟨0, rfl, by omega, hT2, hG.mono (by simp)⟩
        case round =>
          clear hG hT2
          obtain ⟨j, rfl, hj, hTj, hG⟩ := hrel
          by_cases hlt : j < ls.length
          · have hlt' : (j : Int) < (ls.length : Int) := by omega
            obtain ⟨c0, c1, hw0, hw1⟩ := hz j hlt
            have hbS : ¬ b = bs i := fun e => hnb i hi e.symm
            replace c0 := hG.cell c0 (by simpa using hbS)
            replace c1 := hG.cell c1 (by simpa using hbS)
            have hwx : (Lit.int .i64 (a + j)).wf = true := wf_small (by omega) (by omega)
            have hsn := tabP_put (putsF (fs i) a (ls.take j) 1 0) (a + j) ⟨(ls.getD j (0, 0)).1, (ls.getD j (0, 0)).2, 1, 0⟩
            have hlen : (ls.take j).length = j := by rw [List.length_take]; omega
            have hps := putsF_snoc (f := fs i) (a := a) (ls := ls.take j) (st := 1) (mk := 0) (x := ls.getD j (0, 0))
            rw [hlen, ← take_snoc2 hlt] at hps
            rw [hps] at hsn
            clear hps hlen hw0 hw1
            generalize (ls.getD j (0, 0)).1 = x at c0 hsn
            generalize (ls.getD j (0, 0)).2 = y at c1 hsn
            simp only [encP] at hsn
            go_wp2_with (first
              | (at_mapUpdate; refine wpList_putT rfl _ _ _ 119 rfl (hTj.kept (GrowBut.alloc _ _ []) (by simp)) keyH Try.underlying3 Try.underlying119 (by omega) rfl (a + j) (.agg #[.int .i64 x, .int .i64 y, .int .i64 1, .int .u64 0]) rfl rfl hwx ?_; intro w3 hT3 hg3; rw [hsn] at hT3)
              | go_in)
            exact ⟨⟨j + 1, by simp, by omega, hT3, hG.trans ((GrowBut.alloc _ _ _).trans hg3)⟩, by simp [intN]; omega⟩
          · have hge : ¬ (j : Int) < (ls.length : Int) := by omega
            have hjl : j = ls.length := by omega
            subst hjl
            rw [List.take_length] at hTj
            go_wp2_with go_in
            go_ret
            exact ⟨rfl, h.turned i hi hG hTj (by omega) (putsF_rng (h.rng i hi) ha ha') (putsF_wf (h.wf i hi) hz (by decide) hmark), hG⟩
      · have hmb : (mark == 0) = false := by rw [beq_eq_false_iff_ne]; exact hm0
        clear hm0
        go_wp2_with go_in
        have hT2 := ((h.tabs i hi).kept hG (by simp))
        have hTe : tabP (fs i) = tabP (putsF (fs i) a (ls.take 0) 4 mark) := by rw [List.take_zero, putsF_nil]
        rw [hTe] at hT2
        clear hTe
        go_loopw [58] (fun v58 wx => ∃ j : Nat, v58 = .int .i64 j ∧ j ≤ ls.length ∧ TabAt wx .i64 3 (bs i) (n + j) (tabP (putsF (fs i) a (ls.take j) 4 mark)) ∧ GrowBut w wx [bs i]) (fun v58 _ => ls.length - intN v58)
        case atStart => exact ⟨0, rfl, by omega, hT2, hG.mono (by simp)⟩
        case round =>
          clear hG hT2
          obtain ⟨j, rfl, hj, hTj, hG⟩ := hrel
          by_cases hlt : j < ls.length
          · have hlt' : (j : Int) < (ls.length : Int) := by omega
            obtain ⟨c0, c1, hw0, hw1⟩ := hz j hlt
            have hbS : ¬ b = bs i := fun e => hnb i hi e.symm
            replace c0 := hG.cell c0 (by simpa using hbS)
            replace c1 := hG.cell c1 (by simpa using hbS)
            have hwx : (Lit.int .i64 (a + j)).wf = true := wf_small (by omega) (by omega)
            have hsn := tabP_put (putsF (fs i) a (ls.take j) 4 mark) (a + j) ⟨(ls.getD j (0, 0)).1, (ls.getD j (0, 0)).2, 4, mark⟩
            have hlen : (ls.take j).length = j := by rw [List.length_take]; omega
            have hps := putsF_snoc (f := fs i) (a := a) (ls := ls.take j) (st := 4) (mk := mark) (x := ls.getD j (0, 0))
            rw [hlen, ← take_snoc2 hlt] at hps
            rw [hps] at hsn
            clear hps hlen hw0 hw1
            generalize (ls.getD j (0, 0)).1 = x at c0 hsn
            generalize (ls.getD j (0, 0)).2 = y at c1 hsn
            simp only [encP] at hsn
            go_wp2_with (first
              | (at_mapUpdate; refine wpList_putT rfl _ _ _ 119 rfl (hTj.kept (GrowBut.alloc _ _ []) (by simp)) keyH Try.underlying3 Try.underlying119 (by omega) rfl (a + j) (.agg #[.int .i64 x, .int .i64 y, .int .i64 4, .int .u64 mark]) rfl rfl hwx ?_; intro w3 hT3 hg3; rw [hsn] at hT3)
              | go_in)
            exact ⟨⟨j + 1, by simp, by omega, hT3, hG.trans ((GrowBut.alloc _ _ _).trans hg3)⟩, by simp [intN]; omega⟩
          · have hge : ¬ (j : Int) < (ls.length : Int) := by omega
            have hjl : j = ls.length := by omega
            subst hjl
            rw [List.take_length] at hTj
            go_wp2_with go_in
            go_ret
            exact ⟨rfl, h.turned i hi hG hTj (by omega) (putsF_rng (h.rng i hi) ha ha') (putsF_wf (h.wf i hi) hz (by decide) hmark), hG⟩


set_option maxRecDepth 100000 in
set_option maxHeartbeats 4000000 in
theorem put_denied (B g cap m n : Nat) (bs : Nat → Nat) (fs : Nat → PgF) (i : Nat) (b off c : Nat) (a mark : Int) (len : Nat) (w : World) (h : HoldAt w B g cap m n bs fs) (hi : i < m) (hm : m ≤ 1000) (hl : len ≤ 100)
    (ha : 0 ≤ a) (ha' : a + len ≤ 3840) (j0 : Nat) (hj0 : j0 < len) (hfree : ∀ j : Nat, j < j0 → fs i (a + j) = none) (r0 : PageR) (hbad : fs i (a + j0) = some r0) :
    Calls Try.prog 25 #[.pointer (some ⟨B, 0, none⟩), .int .i64 i, .int .i64 a, .slice (some ⟨b, off, none⟩) len c, .int .u64 mark] w fun e w' => e = .returned (.int .i64 (-6)) ∧ GrowBut w w' [] := by
  have hO := of_in B g cap m n bs fs i w h hi hm
  have hl0 : ((len : Int) == 0) = false := by rw [beq_eq_false_iff_ne]; omega
  have ha0 : decide (a < 0) = false := decide_eq_false (by omega)
  have ha1 : decide (3840 - (len : Int) < a) = false := decide_eq_false (by omega)
  have heq := eqMap (bs i)
  go_enter Try.func25, Try.ntmps25
  go_wp2_with (first
    | (go_at_call 80; refine hO.mono ?_; rintro e w1 ⟨rfl, hw1⟩; rw [hw1]; clear hw1 w1)
    | go_in)
  clear heq hO
  go_loopw [41] (fun v41 wx => ∃ j : Nat, v41 = .int .i64 j ∧ j ≤ j0 ∧ GrowBut w wx []) (fun v41 _ => j0 - intN v41)
  case atStart => exact ⟨0, rfl, by omega, .refl _ _⟩
  case round =>
    obtain ⟨j, rfl, hj, hG⟩ := hrel
    have hlt' : (j : Int) < (len : Int) := by omega
    have hTj := (h.tabs i hi).kept hG (by simp)
    have hwx : (Lit.int .i64 (a + j)).wf = true := wf_small (by omega) (by omega)
    have hlk := hTj.look_ok (t := 119) (e := 46) keyH Try.underlying3 Try.underlying119 (zeroP _) hwx
    rw [(tab_val _ _).1, (tab_val _ _).2] at hlk
    by_cases hjj : j < j0
    · rw [hfree j hjj] at hlk
      simp only [encP, Option.getD_none, Option.isSome_none] at hlk
      go_wp2_with go_in
      exact ⟨⟨j + 1, by simp, by omega, hG.trans (GrowBut.alloc _ _ _)⟩, by simp [intN]; omega⟩
    · obtain rfl : j = j0 := by omega
      rw [hbad] at hlk
      simp only [encP, Option.getD_some, Option.isSome_some] at hlk
      clear hfree hbad
      go_wp2_with go_in
      go_ret
      exact ⟨rfl, hG.trans (GrowBut.alloc _ _ _)⟩

set_option maxRecDepth 100000 in
set_option maxHeartbeats 4000000 in
theorem put_none (B g cap m n : Nat) (bs : Nat → Nat) (fs : Nat → PgF) (i : Nat) (s : Option Addr) (c : Nat) (a mark : Int) (w : World) (h : HoldAt w B g cap m n bs fs) (hi : i < m) (hm : m ≤ 1000) :
    Calls Try.prog 25 #[.pointer (some ⟨B, 0, none⟩), .int .i64 i, .int .i64 a, .slice s 0 c, .int .u64 mark] w fun e w' => e = .returned (.int .i64 (-2)) ∧ GrowBut w w' [] := by
  have hO := of_in B g cap m n bs fs i w h hi hm
  have heq := eqMap (bs i)
  go_enter Try.func25, Try.ntmps25
  go_wp2_with (first
    | (go_at_call 80; refine hO.mono ?_; rintro e w1 ⟨rfl, hw1⟩; rw [hw1]; clear hw1 w1)
    | go_in)
  go_ret
  exact ⟨rfl, .refl _ _⟩

end Go.Proofs.Ytonbcchdaboigaa
