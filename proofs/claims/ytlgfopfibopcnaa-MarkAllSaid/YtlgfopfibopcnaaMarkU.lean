/-
  MarkAll's small facts: bits of an int; marks that are not there; the row of pairs that comes in.
-/
import Derived.Test.YtlgfopfibopcnaaMarkT
import Derived.Test.YtlgfopfibopcnaaRecs
import Derived.Laws.Bits128
namespace Go.Proofs.Ytlgfopfibopcnaa
open Go Go.RowKit Go.Maps Go.Am
open Go.ChangeShapes Go.WideShapes Go.ChangeAt
set_option linter.unusedVariables false

set_option maxRecDepth 100000 in
theorem giveM_nil (w : World) : Calls Try.prog 20 #[.pointer none, .int .i64 0] w fun e w' => e = .returned (.tuple #[.int .u64 0, .int .i64 (-2)]) ∧ w' = w := by
  go_enter Try.func20, Try.ntmps20
  go_wp2_with go_in
  go_ret2
  exact ⟨rfl, rfl⟩

set_option maxRecDepth 100000 in
theorem isM_nil (w : World) : Calls Try.prog 26 #[.pointer none, .int .u64 1] w fun e w' => e = .returned (.bool false) ∧ w' = w := by
  go_enter Try.func26, Try.ntmps26
  go_wp2_with go_in
  go_ret
  exact ⟨rfl, rfl⟩

set_option maxRecDepth 100000 in
theorem dropM_nil (w : World) : Calls Try.prog 22 #[.pointer none, .int .u64 1] w fun e w' => e = .returned (.bool false) ∧ w' = w := by
  have hI := isM_nil w
  go_enter Try.func22, Try.ntmps22
  go_wp2_with (first
    | (go_at_call 26; refine hI.mono ?_; rintro r w9 ⟨rfl, hw9⟩; rw [hw9]; clear hw9 w9)
    | go_in)
  go_ret
  exact ⟨rfl, rfl⟩

set_option maxRecDepth 100000 in
theorem ofM_nil (w : World) : Calls Try.prog 24 #[.pointer none, .int .i64 0] w fun e w' => e = .returned (.slice none 0 0) ∧ w' = w := by
  go_enter Try.func24, Try.ntmps24
  go_wp2_with go_in
  go_ret
  exact ⟨rfl, rfl⟩

theorem i64_and3 (n : Int) : bits .and .i64 n 3 = n % 4 := by
  have h3 : (BitVec.ofInt 64 3).toNat = 2 ^ 2 - 1 := by decide
  have key : (BitVec.ofInt 64 n &&& BitVec.ofInt 64 3).toNat = (n % ((2 ^ 64 : Nat) : Int)).toNat % 2 ^ 2 := by
    rw [BitVec.toNat_and, BitVec.toNat_ofInt, h3, Nat.and_two_pow_sub_one_eq_mod]
  show IntKind.i64.wrap ((BitVec.ofInt 64 n &&& BitVec.ofInt 64 3).toNat : Nat) = n % 4
  rw [key, IntKind.wrap_i64]
  omega

theorem i64_and63 (n : Int) : bits .and .i64 n 63 = n % 64 := by
  have h63 : (BitVec.ofInt 64 63).toNat = 2 ^ 6 - 1 := by decide
  have key : (BitVec.ofInt 64 n &&& BitVec.ofInt 64 63).toNat = (n % ((2 ^ 64 : Nat) : Int)).toNat % 2 ^ 6 := by
    rw [BitVec.toNat_and, BitVec.toNat_ofInt, h63, Nat.and_two_pow_sub_one_eq_mod]
  show IntKind.i64.wrap ((BitVec.ofInt 64 n &&& BitVec.ofInt 64 63).toNat : Nat) = n % 64
  rw [key, IntKind.wrap_i64]
  omega

/-- A pair of numbers. -/
def PairQ (cs : List Value) : Prop := cs.length = 2 → ∃ a b : Int, cs = [.int .i64 a, .int .i64 b]

set_option maxRecDepth 100000 in
theorem pairQ {H : Type} {enc : TypeId × Value → H} {W : World} (fuel : Nat) (cs : List Value) (x : DataW H × List MemPlace) (h : DataW.trod enc Try.prog W 0 (fun _ => true) true fuel 32 cs = some x) : PairQ cs := fun hl => by
  obtain ⟨_, zs, hz, hzl⟩ := arr_ints (xs := cs.toArray) (d := x.1) (ps := x.2) Try.underlying32 Try.underlying3 (by kernel_rfl) (by kernel_rfl) (by simpa using hl) ⟨fuel, by simpa [Value.cells] using h⟩
  match zs, hzl with
  | [a, b], _ => exact ⟨a, b, by simpa using hz⟩

set_option maxRecDepth 100000 in
theorem slice_pairs {H : Type} {enc : TypeId × Value → H} {W : World} {b0 : Nat} {r : Reach} {v : Value} {d : DataW H} {ps : List MemPlace} (hval : Value.okWide Try.prog W r b0 22 v) (hd : DataW.Trod enc Try.prog W 0 (fun _ => true) true 22 v d ps) :
    ∃ (n : Nat) (p : Option Addr) (cap : Nat), v = .slice p n cap ∧ ∀ i, i < n → ∃ g off, p = some ⟨g, off, none⟩ ∧ g < W.heap.size ∧ ∃ cs : List Value, PairQ cs ∧ cs.length = 2 ∧ ∀ j, j < 2 → W.cell? ⟨g, off + i * 2 + j, none⟩ = cs[j]? :=
  slice_recs Try.underlying22 (by kernel_rfl) (by decide) PairQ pairQ hval hd

/-- A number of a row. -/
theorem pick_of (x : Int) {m : Nat} (hm : 0 < m) (hb : m ≤ 1000) : ∃ k : Nat, (x % 64).tmod (m : Int) = (k : Int) ∧ k < m := by
  have h0 : 0 ≤ x % 64 := Int.emod_nonneg _ (by decide)
  rw [Int.tmod_eq_emod_of_nonneg h0]
  have h1 : 0 ≤ (x % 64) % (m : Int) := Int.emod_nonneg _ (by omega)
  have h2 : (x % 64) % (m : Int) < m := Int.emod_lt_of_pos _ (by omega)
  exact ⟨((x % 64) % (m : Int)).toNat, by omega, by omega⟩

end Go.Proofs.Ytlgfopfibopcnaa
