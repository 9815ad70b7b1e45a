/-
  Whole numbers as floats: their sums, when they are equal, and back again.
-/
import Derived.Laws.ComplexArith
namespace Go.Fl
open Ieee

set_option maxRecDepth 100000 in
theorem read_all : (List.range 8200).all (fun n => decide ((FloatKind.f64.format.read (FloatKind.f64.format.nearest false n 0)) = (if n = 0 then Datum.number false 0 (-1074) else Datum.number false (n <<< (52 - n.log2)) ((n.log2 : Int) - 52)))) = true := by decide +kernel

/-- A whole number as a float's bits. -/
abbrev F (n : Nat) : Nat := floatOfInt .f64 (n : Int)

theorem F_eq (n : Nat) : F n = FloatKind.f64.format.nearest false n 0 := by
  unfold F floatOfInt
  have h : decide ((n : Int) < 0) = false := by simp
  show FloatKind.f64.format.write (.number (decide ((n : Int) < 0)) (n : Int).natAbs 0) = _
  rw [h]; rfl

theorem read_F {n : Nat} (hn : n < 8200) : ∃ k : Nat, FloatKind.f64.format.read (F n) = .number false (n * 2 ^ k) (-(k : Int)) := by
  have h := List.all_eq_true.1 read_all n (List.mem_range.2 hn)
  rw [decide_eq_true_eq, ← F_eq] at h
  rw [h]
  by_cases h0 : n = 0
  · obtain ⟨k, hk⟩ : ∃ k : Nat, k = 1074 := ⟨_, rfl⟩
    exact ⟨k, by rw [if_pos h0, h0, Nat.zero_mul, hk]; rfl⟩
  · have hl : n.log2 < 14 := by rw [Nat.log2_lt h0]; omega
    exact ⟨52 - n.log2, by rw [if_neg h0, Nat.shiftLeft_eq]; congr 1; omega⟩

theorem log2_mul (m k : Nat) (hm : m ≠ 0) : (m * 2 ^ k).log2 = m.log2 + k := by
  rw [← Nat.shiftLeft_eq]
  induction k with
  | zero => simp
  | succ k ih =>
    have : m <<< (k + 1) = 2 * (m <<< k) := by rw [Nat.shiftLeft_eq, Nat.shiftLeft_eq, Nat.pow_succ]; rw [Nat.mul_comm 2, Nat.mul_assoc]
    rw [this, Nat.log2_two_mul (by rw [Nat.shiftLeft_eq]; exact Nat.mul_ne_zero hm (Nat.ne_of_gt (Nat.two_pow_pos k))), ih]
    omega

theorem pow_cut (a d k : Nat) (h : d ≤ k) : a * 2 ^ k / 2 ^ d = a * 2 ^ (k - d) ∧ a * 2 ^ k % 2 ^ d = 0 := by
  have e : a * 2 ^ k = a * 2 ^ (k - d) * 2 ^ d := by rw [Nat.mul_assoc, ← Nat.pow_add, Nat.sub_add_cancel h]
  have hp := Nat.two_pow_pos d
  rw [e]
  exact ⟨Nat.mul_div_cancel _ hp, Nat.mul_mod_left _ _⟩

theorem cut_even (a d k : Nat) (ha : a ≠ 0) (h : d ≤ k) : Toward.even.cut false (a * 2 ^ k) d = a * 2 ^ (k - d) := by
  unfold Toward.cut
  have hm : min d ((a * 2 ^ k).log2 + 2) = d := by rw [log2_mul a k ha]; omega
  have hp := Nat.two_pow_pos d
  obtain ⟨h1, h2⟩ := pow_cut a d k h
  simp only [hm, Nat.shiftLeft_eq, Nat.one_mul, h1, h2]
  have e1 : decide (2 ^ d < 2 * 0) = false := by simp
  have e2 : (2 ^ d == 2 * 0) = false := by simp
  rw [e1, e2]
  rfl

theorem near (m k : Nat) (hm : m ≠ 0) (hl : m.log2 ≤ 52) : FloatKind.f64.format.nearest false (m * 2 ^ k) (-(k : Int)) = FloatKind.f64.format.nearest false m 0 := by
  have key : ∀ k : Nat, FloatKind.f64.format.nearest false (m * 2 ^ k) (-(k : Int)) = FloatKind.f64.format.word false (min (((m.log2 : Int) - 52 - FloatKind.f64.format.leastPlace).toNat * FloatKind.f64.format.binade + m * 2 ^ (52 - m.log2)) FloatKind.f64.format.infRung) := by
    intro k
    have hne : m * 2 ^ k ≠ 0 := Nat.mul_ne_zero hm (Nat.ne_of_gt (Nat.two_pow_pos k))
    unfold Format.nearest
    rw [if_neg hne, log2_mul m k hm]
    have hlp : FloatKind.f64.format.leastPlace = -1074 := by decide
    have hfb : FloatKind.f64.format.fractionBits = 52 := rfl
    have hlast : max (-(k : Int) + ((m.log2 + k : Nat) : Int) - (FloatKind.f64.format.fractionBits : Nat)) FloatKind.f64.format.leastPlace = (m.log2 : Int) - 52 := by rw [hlp, hfb]; omega
    simp only [hlast]
    congr 3
    by_cases h : k + m.log2 ≤ 52
    · have e1 : ((-(k : Int)) - ((m.log2 : Int) - 52)).toNat = 52 - m.log2 - k := by omega
      have e2 : ((m.log2 : Int) - 52 - (-(k : Int))).toNat = 0 := by omega
      rw [e1, e2, Nat.shiftLeft_eq, Nat.mul_assoc, ← Nat.pow_add, show k + (52 - m.log2 - k) = 52 - m.log2 by omega]
      exact cut_even m 0 _ hm (by omega)
    · have e1 : ((-(k : Int)) - ((m.log2 : Int) - 52)).toNat = 0 := by omega
      have e2 : ((m.log2 : Int) - 52 - (-(k : Int))).toNat = k - (52 - m.log2) := by omega
      rw [e1, e2, Nat.shiftLeft_eq, Nat.pow_zero, Nat.mul_one, cut_even m _ k hm (by omega)]
      congr 2
      omega
  rw [key k]
  have := key 0
  rw [Nat.pow_zero, Nat.mul_one] at this
  exact this.symm

theorem signed_pos (a k : Nat) : signed false a k = ((a * 2 ^ k : Nat) : Int) := by
  unfold signed
  simp [Nat.shiftLeft_eq]

theorem F_add {a c : Nat} (ha : a < 8200) (hc : c < 8200) (hs : a + c < 8200) : floatBits .add .f64 (F a) (F c) = some (F (a + c)) := by
  obtain ⟨k, hk⟩ := read_F ha
  obtain ⟨j, hj⟩ := read_F hc
  show FloatKind.f64.format.add (F a) (F c) = _
  unfold Format.add
  rw [hk, hj]
  unfold Datum.sum
  simp only [signed_pos, Option.map_some, Bool.and_self]
  have e1 : (-(k : Int) - min (-(k : Int)) (-(j : Int))).toNat = max k j - k := by omega
  have e2 : (-(j : Int) - min (-(k : Int)) (-(j : Int))).toNat = max k j - j := by omega
  have e3 : min (-(k : Int)) (-(j : Int)) = -((max k j : Nat) : Int) := by omega
  have ea : a * 2 ^ k * 2 ^ (max k j - k) = a * 2 ^ (max k j) := by rw [Nat.mul_assoc, ← Nat.pow_add]; congr 2; omega
  have ec : c * 2 ^ j * 2 ^ (max k j - j) = c * 2 ^ (max k j) := by rw [Nat.mul_assoc, ← Nat.pow_add]; congr 2; omega
  rw [e1, e2, e3, ea, ec]
  have et : ((a * 2 ^ (max k j) : Nat) : Int) + ((c * 2 ^ (max k j) : Nat) : Int) = (((a + c) * 2 ^ (max k j) : Nat) : Int) := by rw [Nat.add_mul]; omega
  rw [et]
  have hneg : (if (((a + c) * 2 ^ (max k j) : Nat) : Int) = 0 then false else decide ((((a + c) * 2 ^ (max k j) : Nat) : Int) < 0)) = false := by
    split
    · rfl
    · simp only [decide_eq_false_iff_not]; omega
  rw [hneg, Int.natAbs_natCast, F_eq]
  show some (FloatKind.f64.format.nearest false _ _) = _
  by_cases h0 : a + c = 0
  · rw [h0, Nat.zero_mul]
    unfold Format.nearest
    simp
  · rw [near _ _ h0 (by have : (a + c).log2 < 14 := by rw [Nat.log2_lt h0]; omega
                        omega)]

theorem F_order {a c : Nat} (ha : a < 8200) (hc : c < 8200) : (FloatKind.f64.format.order (F a) (F c) == some .eq) = decide (a = c) := by
  obtain ⟨k, hk⟩ := read_F ha
  obtain ⟨j, hj⟩ := read_F hc
  unfold Format.order
  rw [hk, hj]
  unfold Datum.order
  simp only [signed_pos]
  have e1 : (-(k : Int) - min (-(k : Int)) (-(j : Int))).toNat = max k j - k := by omega
  have e2 : (-(j : Int) - min (-(k : Int)) (-(j : Int))).toNat = max k j - j := by omega
  have ea : a * 2 ^ k * 2 ^ (max k j - k) = a * 2 ^ (max k j) := by rw [Nat.mul_assoc, ← Nat.pow_add]; congr 2; omega
  have ec : c * 2 ^ j * 2 ^ (max k j - j) = c * 2 ^ (max k j) := by rw [Nat.mul_assoc, ← Nat.pow_add]; congr 2; omega
  rw [e1, e2, ea, ec]
  have hp := Nat.two_pow_pos (max k j)
  by_cases h : a = c
  · subst h
    simp
  · rw [decide_eq_false h]
    have hne : ((a * 2 ^ (max k j) : Nat) : Int) ≠ ((c * 2 ^ (max k j) : Nat) : Int) := fun e => h (Nat.eq_of_mul_eq_mul_right hp (Int.ofNat.inj e))
    have : compare ((a * 2 ^ (max k j) : Nat) : Int) ((c * 2 ^ (max k j) : Nat) : Int) ≠ .eq := by
      rw [ne_eq, Int.compare_eq_eq]; exact hne
    cases hcmp : compare ((a * 2 ^ (max k j) : Nat) : Int) ((c * 2 ^ (max k j) : Nat) : Int) with
    | lt => rfl
    | gt => rfl
    | eq => exact absurd hcmp this

theorem F_int {a : Nat} (ha : a < 8200) : floatToIntVal .f64 (F a) .i64 = some (a : Int) := by
  obtain ⟨k, hk⟩ := read_F ha
  unfold floatToIntVal FloatKind.decode
  rw [hk]
  unfold Datum.toInt Datum.integral
  simp only
  have e1 : (-(k : Int)).toNat = 0 := by omega
  have e2 : (- -(k : Int)).toNat = k := by omega
  have hcut : Toward.zero.cut false ((a * 2 ^ k) <<< (-(k : Int)).toNat) (- -(k : Int)).toNat = a := by
    rw [e1, e2, Nat.shiftLeft_eq, Nat.pow_zero, Nat.mul_one]
    unfold Toward.cut
    by_cases h0 : a = 0
    · subst h0; simp
    · have hm : min k ((a * 2 ^ k).log2 + 2) = k := by rw [log2_mul a k h0]; omega
      simp only [hm, Nat.shiftLeft_eq, Nat.one_mul, (pow_cut a k k (Nat.le_refl _)).1, Nat.sub_self, Nat.pow_zero, Nat.mul_one]
      rfl
  rw [hcut, signed_pos, Nat.pow_zero, Nat.mul_one]
  have : IntKind.i64.min ≤ (a : Int) ∧ (a : Int) ≤ IntKind.i64.max := by
    have h1 : IntKind.i64.min = -9223372036854775808 := by decide
    have h2 : IntKind.i64.max = 9223372036854775807 := by decide
    omega
  rw [if_pos this]

end Go.Fl
