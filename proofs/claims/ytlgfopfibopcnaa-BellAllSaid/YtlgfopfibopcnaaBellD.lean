/-
  Package bell: further contracts: Bound; what is refused.
-/
import Derived.Test.YtlgfopfibopcnaaBellC
namespace Go.Proofs.Ytlgfopfibopcnaa
open Go Go.RowKit Go.Maps Go.Am Go.Sort
set_option linter.unusedVariables false

set_option maxRecDepth 100000 in
set_option maxHeartbeats 2000000 in
theorem boundOf_calls (B b n : Nat) (l : List BSet) (e : BSet) (from_ : Int) (w : World) (h : BellsAt w B b n l) (he : e ∈ l) (hk : (Lit.int .i64 e.who).wf = true) (hf : (Lit.int .i64 from_).wf = true) :
    Calls Try.prog 69 #[.pointer (some ⟨B, 0, none⟩), .int .i64 e.who, .int .i64 from_] w fun r w' => r = .returned (.int .u64 (e.fr from_)) ∧ w' = w := by
  have hO := ofB_calls B b n l e w h he hk
  obtain ⟨c0, c1, c2, f1, f2, hlt, ⟨D, hown, hD⟩, hrl⟩ := h.sets e he
  obtain ⟨c, hrun, hat, hwc⟩ := hown.lookup_int law3K Try.underlying200 Try.underlying23 (zeroU w) (keyJ hf)
  rw [hD.atKey] at hat
  obtain rfl : (e.fr from_ : Int) = c := by simpa using hat
  generalize e.who = who at hk hO ⊢
  generalize e.S = S at hO c0
  generalize e.f = f at c0 hrun
  generalize e.fr from_ = ff at hrun ⊢
  go_enter Try.func69, Try.ntmps69
  go_wp2_with (first
    | (go_at_call 160; refine hO.mono ?_; rintro r w1 ⟨rfl, hw1⟩; rw [hw1]; clear hw1 w1)
    | go_in)
  go_ret
  exact ⟨rfl, rfl⟩

set_option maxRecDepth 100000 in
set_option maxHeartbeats 2000000 in
theorem ring_zero (B b n : Nat) (l : List BSet) (e : BSet) (from_ : Int) (w : World) (h : BellsAt w B b n l) (he : e ∈ l) (hk : (Lit.int .i64 e.who).wf = true) :
    Calls Try.prog 63 #[.pointer (some ⟨B, 0, none⟩), .int .i64 e.who, .int .i64 from_, .int .u64 0] w fun r w' => r = .returned (.int .i64 (-2)) ∧ w' = w := by
  have hO := ofB_calls B b n l e w h he hk
  generalize e.who = who at hk hO ⊢
  generalize e.S = S at hO
  go_enter Try.func63, Try.ntmps63
  go_wp2_with (first
    | (go_at_call 160; refine hO.mono ?_; rintro r w1 ⟨rfl, hw1⟩; rw [hw1]; clear hw1 w1)
    | go_in)
  go_ret
  exact ⟨rfl, rfl⟩

set_option maxRecDepth 100000 in
set_option maxHeartbeats 2000000 in
theorem bind_zero (B b n : Nat) (l : List BSet) (e : BSet) (from_ : Int) (w : World) (h : BellsAt w B b n l) (he : e ∈ l) (hk : (Lit.int .i64 e.who).wf = true) :
    Calls Try.prog 59 #[.pointer (some ⟨B, 0, none⟩), .int .i64 e.who, .int .i64 from_, .int .u64 0] w fun r w' => r = .returned (.int .i64 (-2)) ∧ w' = w := by
  have hO := ofB_calls B b n l e w h he hk
  generalize e.who = who at hk hO ⊢
  generalize e.S = S at hO
  go_enter Try.func59, Try.ntmps59
  go_wp2_with (first
    | (go_at_call 160; refine hO.mono ?_; rintro r w1 ⟨rfl, hw1⟩; rw [hw1]; clear hw1 w1)
    | go_in)
  go_ret
  exact ⟨rfl, rfl⟩

set_option maxRecDepth 100000 in
set_option maxHeartbeats 2000000 in
theorem ring_denied (B b n : Nat) (l : List BSet) (e : BSet) (from_ : Int) (bits : Nat) (w : World) (h : BellsAt w B b n l) (he : e ∈ l) (hk : (Lit.int .i64 e.who).wf = true) (hf : (Lit.int .i64 from_).wf = true) (hb : bits < 18446744073709551616) (h0 : bits ≠ 0)
    (hin : bits &&& (18446744073709551615 - e.fr from_) ≠ 0) :
    Calls Try.prog 63 #[.pointer (some ⟨B, 0, none⟩), .int .i64 e.who, .int .i64 from_, .int .u64 bits] w fun r w' => r = .returned (.int .i64 (-6)) ∧ w' = w := by
  have hO := ofB_calls B b n l e w h he hk
  obtain ⟨c0, c1, c2, f1, f2, hlt, ⟨D, hown, hD⟩, hrl⟩ := h.sets e he
  obtain ⟨c, hrun, hat, hwc⟩ := hown.lookup_int law3K Try.underlying200 Try.underlying23 (zeroU w) (keyJ hf)
  rw [hD.atKey] at hat
  obtain rfl : (e.fr from_ : Int) = c := by simpa using hat
  have hfl := hD.lt from_
  have hB0 : ¬ (bits : Int) = 0 := by omega
  generalize e.who = who at hk hO ⊢
  generalize e.S = S at hO c0
  generalize e.f = f at c0 hrun
  generalize e.fr from_ = ff at hrun hin hfl
  have hN := u64_andNot_nat bits ff hb hfl
  generalize bits &&& (18446744073709551615 - ff) = an at hN hin
  have hA0 : ¬ (an : Int) = 0 := by omega
  go_enter Try.func63, Try.ntmps63
  go_wp2_with (first
    | (go_at_call 160; refine hO.mono ?_; rintro r w1 ⟨rfl, hw1⟩; rw [hw1]; clear hw1 w1)
    | go_in)
  go_ret
  exact ⟨rfl, rfl⟩

set_option maxRecDepth 100000 in
set_option maxHeartbeats 2000000 in
theorem bind_denied (B b n : Nat) (l : List BSet) (e : BSet) (from_ : Int) (bits : Nat) (w : World) (h : BellsAt w B b n l) (he : e ∈ l) (hk : (Lit.int .i64 e.who).wf = true) (hb : bits < 18446744073709551616) (h0 : bits ≠ 0)
    (hfree : orAll e.K e.fr &&& bits ≠ 0) (hn : e.n ≤ 1000) :
    Calls Try.prog 59 #[.pointer (some ⟨B, 0, none⟩), .int .i64 e.who, .int .i64 from_, .int .u64 bits] w fun r w' => r = .returned (.int .i64 (-6)) ∧ GrowBut w w' [] := by
  have hO := ofB_calls B b n l e w h he hk
  have hS := h.sets e he
  have hB := bound_calls e w hS hn
  have hB0 : ¬ (bits : Int) = 0 := by omega
  have hA := u64_and_nat (orAll e.K e.fr) bits (orAll_lt (by obtain ⟨D, hown, hD⟩ := hS.own; exact hD.lt)) hb
  generalize e.who = who at hk hO ⊢
  generalize e.S = S at hO hB
  generalize orAll e.K e.fr = all at hB hA hfree
  generalize all &&& bits = an at hA hfree
  have hA0 : ¬ (an : Int) = 0 := by omega
  go_enter Try.func59, Try.ntmps59
  go_wp2_with (first
    | (go_at_call 160; refine hO.mono ?_; rintro r w1 ⟨rfl, hw1⟩; rw [hw1]; clear hw1 w1)
    | (go_at_call 161; refine hB.mono ?_; rintro r w1 ⟨rfl, hg1⟩)
    | go_in)
  go_ret
  exact ⟨rfl, hg1⟩

end Go.Proofs.Ytlgfopfibopcnaa
