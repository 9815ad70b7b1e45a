/-
  Package seat: Where; one step of each kind.
-/
import Derived.Test.YthhfokbfdeghpaaSeatK
import Derived.Test.YthhfokbfdeghpaaSeatR
namespace Go.Proofs.Ythhfokbfdeghpaa
open Go Go.RowKit Go.Maps Go.Am
set_option linter.unusedVariables false

/-- Where a part runs. -/
def WhereIs (n : Nat) (now : Nat → Nat) (p : Nat) (e : Ending) : Prop := (∃ at_ : Nat, e = .returned (.tuple #[.int .i64 at_, .bool true]) ∧ at_ < n ∧ now at_ = p) ∨ (e = .returned (.tuple #[.int .i64 0, .bool false]) ∧ ∀ i, i < n → now i ≠ p)

set_option maxRecDepth 100000 in
set_option maxHeartbeats 4000000 in
theorem where_calls {S C P O B b K bt bf n N : Nat} {now ph : Nat → Nat} {ow : Nat → Bool} {L : List (Int × Int)} (p : Nat) (w : World) (h : SeatAt w S C P O B b K bt bf n N now ph ow L) (hp : 1 ≤ p) (hp5 : p < 5) :
    Calls Try.prog 51 #[.pointer (some ⟨S, 0, none⟩), .int .i64 p] w fun e w' => WhereIs n now p e ∧ GrowBut w w' [] := by
  have hPt := sPart_calls S P p w h.head.s1 hp5
  rw [decide_eq_true hp] at hPt
  have s0 := h.head.s0
  have hnl := h.n3
  go_enter Try.func51, Try.ntmps51
  go_upto_region 3 with (first
    | (go_at_call 92; refine hPt.mono ?_; clear hPt; rintro e w1 ⟨rfl, hw1⟩; rw [hw1]; clear hw1 w1)
    | go_in)
  go_loopw [16] (fun v wr => ∃ k : Nat, v = .int .i64 k ∧ k ≤ n ∧ (∀ i, i < k → now i ≠ p) ∧ GrowBut w wr []) (fun v _ => n - (match v with | .int _ k => k.toNat | _ => 0))
  case atStart => exact ⟨0, rfl, by omega, fun i hi => by omega, .refl _ _⟩
  case round =>
    obtain ⟨k, rfl, hk, hno, hg⟩ := hrel
    have hC := h.cpus.kept hg (by simp)
    have hlC := hC.lt
    by_cases hlt : k < n
    · have hlt' : (k : Int) < n := by omega
      obtain ⟨x, hx⟩ := hC.regs hlt
      have x0 := hC.cn k hlt
      obtain ⟨x1, x2, x3, x4, x5, x6, x7, x8, x9, x10, x11, x12, x13, x14, x15, x16⟩ : wr.cell? ⟨C, k * 17 + 1, none⟩ = some (.int .u64 (x 1)) ∧ wr.cell? ⟨C, k * 17 + 2, none⟩ = some (.int .u64 (x 2)) ∧ wr.cell? ⟨C, k * 17 + 3, none⟩ = some (.int .u64 (x 3)) ∧ wr.cell? ⟨C, k * 17 + 4, none⟩ = some (.int .u64 (x 4)) ∧ wr.cell? ⟨C, k * 17 + 5, none⟩ = some (.int .u64 (x 5)) ∧ wr.cell? ⟨C, k * 17 + 6, none⟩ = some (.int .u64 (x 6)) ∧ wr.cell? ⟨C, k * 17 + 7, none⟩ = some (.int .u64 (x 7)) ∧ wr.cell? ⟨C, k * 17 + 8, none⟩ = some (.int .u64 (x 8)) ∧ wr.cell? ⟨C, k * 17 + 9, none⟩ = some (.int .u64 (x 9)) ∧ wr.cell? ⟨C, k * 17 + 10, none⟩ = some (.int .u64 (x 10)) ∧ wr.cell? ⟨C, k * 17 + 11, none⟩ = some (.int .u64 (x 11)) ∧ wr.cell? ⟨C, k * 17 + 12, none⟩ = some (.int .u64 (x 12)) ∧ wr.cell? ⟨C, k * 17 + 13, none⟩ = some (.int .u64 (x 13)) ∧ wr.cell? ⟨C, k * 17 + 14, none⟩ = some (.int .u64 (x 14)) ∧ wr.cell? ⟨C, k * 17 + 15, none⟩ = some (.int .u64 (x 15)) ∧ wr.cell? ⟨C, k * 17 + 16, none⟩ = some (.int .u64 (x 16)) := ⟨hx 1 (by omega) (by omega), hx 2 (by omega) (by omega), hx 3 (by omega) (by omega), hx 4 (by omega) (by omega), hx 5 (by omega) (by omega), hx 6 (by omega) (by omega), hx 7 (by omega) (by omega), hx 8 (by omega) (by omega), hx 9 (by omega) (by omega), hx 10 (by omega) (by omega), hx 11 (by omega) (by omega), hx 12 (by omega) (by omega), hx 13 (by omega) (by omega), hx 14 (by omega) (by omega), hx 15 (by omega) (by omega), hx 16 (by omega) (by omega)⟩
      clear hx hC h
      generalize hko : k * 17 = o at *
      go_upto_region 5 with go_in
      have hgx := GrowBut.alloc wr (.cells #[.int .i64 ((now k : Nat) : Int), .int .u64 (x 1), .int .u64 (x 2), .int .u64 (x 3), .int .u64 (x 4), .int .u64 (x 5), .int .u64 (x 6), .int .u64 (x 7), .int .u64 (x 8), .int .u64 (x 9), .int .u64 (x 10), .int .u64 (x 11), .int .u64 (x 12), .int .u64 (x 13), .int .u64 (x 14), .int .u64 (x 15), .int .u64 (x 16)] 158) []
      have hcx : (wr.alloc (.cells #[.int .i64 ((now k : Nat) : Int), .int .u64 (x 1), .int .u64 (x 2), .int .u64 (x 3), .int .u64 (x 4), .int .u64 (x 5), .int .u64 (x 6), .int .u64 (x 7), .int .u64 (x 8), .int .u64 (x 9), .int .u64 (x 10), .int .u64 (x 11), .int .u64 (x 12), .int .u64 (x 13), .int .u64 (x 14), .int .u64 (x 15), .int .u64 (x 16)] 158)).cell? ⟨wr.heap.size, 0, none⟩ = some (.int .i64 (now k)) := by go_simp
      generalize wr.alloc (.cells #[.int .i64 ((now k : Nat) : Int), .int .u64 (x 1), .int .u64 (x 2), .int .u64 (x 3), .int .u64 (x 4), .int .u64 (x 5), .int .u64 (x 6), .int .u64 (x 7), .int .u64 (x 8), .int .u64 (x 9), .int .u64 (x 10), .int .u64 (x 11), .int .u64 (x 12), .int .u64 (x 13), .int .u64 (x 14), .int .u64 (x 15), .int .u64 (x 16)] 158) = wx at hgx hcx ⊢
      clear x0 x1 x2 x3 x4 x5 x6 x7 x8 x9 x10 x11 x12 x13 x14 x15 x16
      generalize wr.heap.size = A at hcx ⊢
      by_cases hp' : now k = p
      · rw [hp'] at hcx
        go_wp2_with go_in
        go_ret2
        exact ⟨.inl ⟨k, rfl, hlt, hp'⟩, hg.trans hgx⟩
      · have hne : ¬ ((now k : Nat) : Int) = (p : Int) := by omega
        go_wp2_with go_in
        exact ⟨⟨k + 1, by simp, by omega, fun i hi => by
          by_cases e : i = k
          · subst e; exact hp'
          · exact hno i (by omega), hg.trans hgx⟩, by simp; omega⟩
    · have hge : ¬ (k : Int) < n := by omega
      have hkn : k = n := by omega
      subst hkn
      go_wp2_with go_in
      go_ret2
      exact ⟨.inr ⟨rfl, fun i hi => hno i (by omega)⟩, hg⟩

end Go.Proofs.Ythhfokbfdeghpaa
