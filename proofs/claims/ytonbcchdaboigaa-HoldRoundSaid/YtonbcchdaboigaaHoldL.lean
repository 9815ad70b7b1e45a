/-
  What is given and comes back, as functions: the plain law of HoldRound.
-/
import Derived.Test.YtonbcchdaboigaaHoldN
namespace Go.Proofs.Ytonbcchdaboigaa
open Go Go.RowKit Go.Maps Go.Am Go.Shelf
set_option linter.unusedVariables false

theorem rising_eq {L M : List Int} (hL : L.Pairwise (· < ·)) (hM : M.Pairwise (· < ·)) (h : ∀ k, k ∈ L ↔ k ∈ M) : L = M := by
  have hp : L.Perm M := (List.perm_ext_iff_of_nodup (hL.imp fun h => by omega) (hM.imp fun h => by omega)).2 h
  exact List.Perm.eq_of_pairwise (le := fun a b : Int => a ≤ b) (fun a b _ _ h1 h2 => Int.le_antisymm h1 h2) (hL.imp fun h => by omega) (hM.imp fun h => by omega) hp

theorem keysP_eq {f : PgF} {L : List Int} (hr : ∀ k r, f k = some r → 0 ≤ k ∧ k < 3840) (hL : L.Pairwise (· < ·)) (hm : ∀ k, k ∈ L ↔ (f k).isSome = true) : keysP f = L :=
  rising_eq (keysP_rises f) hL fun k => (mem_keysP hr).trans (hm k).symm

def first8 : List (Int × Int) := (List.range 8).map fun k : Nat => ((20 + k : Int), (1 + k % 7 : Int))

def eight : List Int := (List.range 8).map fun k : Nat => (k : Int)

theorem mem_eight {k : Int} : k ∈ eight ↔ 0 ≤ k ∧ k < 8 := by
  unfold eight
  rw [List.mem_map]
  constructor
  · rintro ⟨i, hi, rfl⟩; have := List.mem_range.1 hi; omega
  · intro h; exact ⟨k.toNat, List.mem_range.2 (by omega), by omega⟩

theorem eight_rises : eight.Pairwise (· < ·) := by decide

theorem f8_at (k : Int) : firstF first8 k = if 0 ≤ k ∧ k < 8 then some ⟨20 + k, 1 + k % 7, 1, 0⟩ else none := by
  unfold firstF putsF
  have hl : first8.length = 8 := rfl
  rw [hl]
  by_cases h : 0 ≤ k ∧ k < 8
  · have h' : (0 : Int) ≤ k ∧ k < 0 + (8 : Nat) := by omega
    rw [if_pos h, if_pos h']
    obtain ⟨i, rfl⟩ : ∃ i : Nat, k = i := ⟨k.toNat, by omega⟩
    have e : ((i : Int) - 0).toNat = i := by omega
    rw [e]
    unfold first8
    rw [List.getElem?_map, List.getElem?_range (by omega)]
    rfl
  · have h' : ¬ ((0 : Int) ≤ k ∧ k < 0 + (8 : Nat)) := by omega
    rw [if_neg h, if_neg h']

theorem f8_rng : ∀ k r, firstF first8 k = some r → 0 ≤ k ∧ k < 3840 := firstF_rng (by decide)

theorem given_at {zs : List Int} {st : Int} (k : Int) : giveF (firstF first8) zs st 9 k = if 0 ≤ k ∧ k < 8 then (if k ∈ zs then some ⟨20 + k, 1 + k % 7, st, 9⟩ else some ⟨20 + k, 1 + k % 7, 1, 0⟩) else none := by
  unfold giveF
  rw [f8_at]
  by_cases h : 0 ≤ k ∧ k < 8 <;> by_cases h2 : k ∈ zs <;> simp [h, h2]

theorem given_rng {zs : List Int} {st : Int} : ∀ k r, giveF (firstF first8) zs st 9 k = some r → 0 ≤ k ∧ k < 3840 := by
  intro k r h
  rw [given_at] at h
  split at h
  · omega
  · cases h

theorem given_keys {zs : List Int} {st : Int} : keysP (giveF (firstF first8) zs st 9) = eight := by
  refine keysP_eq given_rng eight_rises fun k => ?_
  rw [mem_eight, given_at]
  by_cases h : 0 ≤ k ∧ k < 8
  · by_cases h2 : k ∈ zs <;> simp [h, h2]
  · simp only [h, if_false]; simp

theorem given_any {zs : List Int} {st k : Int} (h : k ∈ eight) (p : PageR → Bool) : (giveF (firstF first8) zs st 9 k).any p = if k ∈ zs then p ⟨20 + k, 1 + k % 7, st, 9⟩ else p ⟨20 + k, 1 + k % 7, 1, 0⟩ := by
  rw [given_at, if_pos (mem_eight.1 h)]
  split <;> rfl

theorem filter_in {zs : List Int} (hz : zs.Pairwise (· < ·)) (hs : ∀ x ∈ zs, x ∈ eight) : eight.filter (fun k => decide (k ∈ zs)) = zs :=
  rising_eq (eight_rises.filter _) hz fun k => by
    rw [List.mem_filter, decide_eq_true_eq]
    exact ⟨fun h => h.2, fun h => ⟨hs k h, h⟩⟩

theorem given_back {zs : List Int} {st : Int} (hst : st = 2 ∨ st = 3) (hz : zs.Pairwise (· < ·)) (hs : ∀ x ∈ zs, x ∈ eight) : suchP (giveF (firstF first8) zs st 9) (givenB 9) = zs := by
  unfold suchP
  rw [given_keys, ← filter_in hz hs]
  refine List.filter_congr fun k hk => ?_
  rw [filter_in hz hs, given_any hk]
  by_cases h : k ∈ zs
  · rw [if_pos h, decide_eq_true h]
    unfold givenB
    rcases hst with rfl | rfl <;> rfl
  · rw [if_neg h, decide_eq_false h]; rfl

theorem seen_two {zs : List Int} : (suchP (giveF (firstF first8) zs 2 9) fun r => !(r.state == 3)).length = 8 := by
  unfold suchP
  rw [given_keys]
  have : eight.filter (fun k => (giveF (firstF first8) zs 2 9 k).any fun r => !(r.state == 3)) = eight := by
    refine List.filter_eq_self.2 fun k hk => ?_
    rw [given_any hk]
    split <;> rfl
  rw [this]
  rfl

theorem seen_three {zs : List Int} (hz : zs.Pairwise (· < ·)) (hs : ∀ x ∈ zs, x ∈ eight) : (suchP (giveF (firstF first8) zs 3 9) fun r => !(r.state == 3)).length + zs.length = 8 := by
  unfold suchP
  rw [given_keys]
  have e1 : eight.filter (fun k => (giveF (firstF first8) zs 3 9 k).any fun r => !(r.state == 3)) = eight.filter (fun k => !decide (k ∈ zs)) := by
    refine List.filter_congr fun k hk => ?_
    rw [given_any hk]
    by_cases h : k ∈ zs
    · rw [if_pos h, decide_eq_true h]; rfl
    · rw [if_neg h, decide_eq_false h]; rfl
  have e2 := List.length_eq_countP_add_countP (fun k => decide (k ∈ zs)) (l := eight)
  rw [List.countP_eq_length_filter, List.countP_eq_length_filter, filter_in hz hs] at e2
  have e3 : eight.filter (fun a => decide ¬(decide (a ∈ zs)) = true) = eight.filter (fun k => !decide (k ∈ zs)) := by
    refine List.filter_congr fun k hk => ?_
    by_cases h : k ∈ zs <;> simp [h]
  rw [e3] at e2
  rw [e1]
  have : eight.length = 8 := rfl
  omega

theorem given_undone {zs : List Int} {st : Int} : giveF (giveF (firstF first8) zs st 9) zs 1 0 = firstF first8 := by
  funext k
  show (if k ∈ zs then (giveF (firstF first8) zs st 9 k).map _ else giveF (firstF first8) zs st 9 k) = _
  rw [given_at, f8_at]
  by_cases h : 0 ≤ k ∧ k < 8
  · by_cases h2 : k ∈ zs
    · rw [if_pos h2, if_pos h, if_pos h2, if_pos h]; rfl
    · rw [if_neg h2, if_pos h, if_neg h2, if_pos h]
  · by_cases h2 : k ∈ zs
    · rw [if_pos h2, if_neg h, if_neg h]; rfl
    · rw [if_neg h2, if_neg h, if_neg h]

theorem first_none : suchP (firstF first8) (givenB 9) = [] := by
  unfold suchP
  refine List.filter_eq_nil_iff.2 fun k hk => ?_
  rw [f8_at]
  split
  · simp [givenB]
  · simp

/-! ### What is put -/
theorem first_nil : firstF [] = fun _ => none := by unfold firstF; rw [putsF_nil]

theorem put_isSome {a : Int} {ls : List (Int × Int)} {st mk k : Int} : (putsF (fun _ => none) a ls st mk k).isSome = decide (a ≤ k ∧ k < a + ls.length) := by
  unfold putsF
  by_cases h : a ≤ k ∧ k < a + ls.length
  · rw [if_pos h, decide_eq_true h, List.getElem?_eq_getElem (by omega)]; rfl
  · rw [if_neg h, decide_eq_false h]; rfl

theorem put_keys {a : Int} {ls : List (Int × Int)} {st mk : Int} (ha : 0 ≤ a) (ha' : a + ls.length ≤ 3840) : keysP (putsF (fun _ => none) a ls st mk) = (List.range ls.length).map fun k : Nat => a + (k : Int) := by
  refine keysP_eq (putsF_rng (fun k r h => by cases h) ha ha') (List.pairwise_map.2 (List.pairwise_lt_range.imp fun h => by omega)) fun k => ?_
  rw [put_isSome, decide_eq_true_eq, List.mem_map]
  constructor
  · rintro ⟨i, hi, rfl⟩; have := List.mem_range.1 hi; omega
  · intro h; exact ⟨(k - a).toNat, List.mem_range.2 (by omega), by omega⟩

theorem put_keys_len {a : Int} {ls : List (Int × Int)} {st mk : Int} (ha : 0 ≤ a) (ha' : a + ls.length ≤ 3840) : (keysP (putsF (fun _ => none) a ls st mk)).length = ls.length := by
  rw [put_keys ha ha']; simp

theorem put_out {a : Int} {ls : List (Int × Int)} : suchP (putsF (fun _ => none) a ls 4 9) (borrowedB 9) = keysP (putsF (fun _ => none) a ls 4 9) := by
  unfold suchP
  refine List.filter_eq_self.2 fun k hk => ?_
  have hs := (List.mem_filter.1 hk).2
  rw [put_isSome, decide_eq_true_eq] at hs
  unfold putsF
  rw [if_pos hs, List.getElem?_eq_getElem (by omega)]
  rfl

theorem put_gone {a : Int} {ls : List (Int × Int)} (ha : 0 ≤ a) (ha' : a + ls.length ≤ 3840) : awayF (putsF (fun _ => none) a ls 4 9) (keysP (putsF (fun _ => none) a ls 4 9)) = fun _ => none := by
  funext k
  unfold awayF
  split
  · rfl
  · rename_i h
    rw [mem_keysP (putsF_rng (fun k r h => by cases h) ha ha')] at h
    simpa using h

theorem none_keys : keysP (fun _ => none) = [] := by
  unfold keysP
  exact List.filter_eq_nil_iff.2 fun k hk => by simp

theorem none_such (p : PageR → Bool) : suchP (fun _ => none) p = [] := by unfold suchP; rw [none_keys]; rfl

/-! ### Which pages -/
def picks (g j : Nat) : List Int := ((List.range j).filter fun k => decide (g / 2 ^ k % 2 = 1)).map fun k : Nat => (k : Int)

theorem picks_succ (g j : Nat) : picks g (j + 1) = picks g j ++ (if g / 2 ^ j % 2 = 1 then [(j : Int)] else []) := by
  unfold picks
  rw [List.range_succ, List.filter_append, List.map_append]
  congr 1
  by_cases h : g / 2 ^ j % 2 = 1 <;> simp [h]

theorem picks_rises (g j : Nat) : (picks g j).Pairwise (· < ·) := by
  unfold picks
  exact List.pairwise_map.2 ((List.pairwise_lt_range.filter _).imp fun h => by omega)

theorem picks_in (g : Nat) : ∀ x ∈ picks g 8, x ∈ eight := by
  intro x hx
  unfold picks at hx
  obtain ⟨k, hk, rfl⟩ := List.mem_map.1 hx
  exact List.mem_map.2 ⟨k, (List.mem_filter.1 hk).1, rfl⟩

theorem picks_len (g j : Nat) : (picks g j).length ≤ j := by
  unfold picks
  rw [List.length_map]
  exact Nat.le_trans (List.length_filter_le _ _) (by simp)

/-- The leaves beside. -/
def leavesOf (zs : List Int) : List (Int × Int) := zs.map fun k => (20 + k, 1)

end Go.Proofs.Ytonbcchdaboigaa
