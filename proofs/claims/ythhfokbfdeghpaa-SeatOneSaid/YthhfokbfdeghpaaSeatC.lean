/-
  Package seat: what is in memory; its small methods.
-/
import Derived.Test.YthhfokbfdeghpaaSeatP
import Derived.Test.YthhfokbfdeghpaaBankD
import Derived.Test.YthhfokbfdeghpaaChainL
import Derived.Test.YthhfokbfdeghpaaPhase2
namespace Go.Proofs.Ythhfokbfdeghpaa
open Go Go.RowKit Go.Maps Go.Am
set_option linter.unusedVariables false

structure CpusAt (w : World) (C n : Nat) (now : Nat → Nat) : Prop where
  cn : ∀ i, i < n → w.cell? ⟨C, i * 17, none⟩ = some (.int .i64 (now i))
  cr : ∀ i, i < n → ∀ j, 1 ≤ j → j < 17 → ∃ x, w.cell? ⟨C, i * 17 + j, none⟩ = some (.int .u64 x)
  cf : ∀ k, k < n * 17 → w.frozen? ⟨C, k, none⟩ = false
  lt : C < w.heap.size

structure PhasesAt (w : World) (P : Nat) (ph : Nat → Nat) : Prop where
  pn : ∀ k, k < 5 → w.cell? ⟨P, k, none⟩ = some (.int .i64 (ph k))
  pf : ∀ k, k < 5 → w.frozen? ⟨P, k, none⟩ = false
  lt : P < w.heap.size

structure OwesAt (w : World) (O : Nat) (ow : Nat → Bool) : Prop where
  on : ∀ k, k < 5 → w.cell? ⟨O, k, none⟩ = some (.bool (ow k))
  of : ∀ k, k < 5 → w.frozen? ⟨O, k, none⟩ = false
  lt : O < w.heap.size

theorem CpusAt.kept {w w' : World} {C n : Nat} {now : Nat → Nat} {l : List Nat} (h : CpusAt w C n now) (hg : GrowBut w w' l) (hl : C ∉ l) : CpusAt w' C n now :=
  ⟨fun i hi => hg.cell (h.cn i hi) hl, fun i hi j h1 h2 => by obtain ⟨x, hx⟩ := h.cr i hi j h1 h2; exact ⟨x, hg.cell hx hl⟩, fun k hk => hg.frozen h.lt (h.cf k hk) hl, Nat.lt_of_lt_of_le h.lt hg.size⟩

theorem CpusAt.fz9 {w : World} {C n c : Nat} {now : Nat → Nat} (h : CpusAt w C n now) (hc : c < n) : w.frozen? ⟨C, c * 17, none⟩ = false ∧ w.frozen? ⟨C, c * 17 + 1, none⟩ = false ∧ w.frozen? ⟨C, c * 17 + 2, none⟩ = false ∧ w.frozen? ⟨C, c * 17 + 3, none⟩ = false ∧ w.frozen? ⟨C, c * 17 + 4, none⟩ = false ∧ w.frozen? ⟨C, c * 17 + 5, none⟩ = false ∧ w.frozen? ⟨C, c * 17 + 6, none⟩ = false ∧ w.frozen? ⟨C, c * 17 + 7, none⟩ = false ∧ w.frozen? ⟨C, c * 17 + 8, none⟩ = false :=
  ⟨h.cf _ (by omega), h.cf _ (by omega), h.cf _ (by omega), h.cf _ (by omega), h.cf _ (by omega), h.cf _ (by omega), h.cf _ (by omega), h.cf _ (by omega), h.cf _ (by omega)⟩

theorem CpusAt.fz16 {w : World} {C n c : Nat} {now : Nat → Nat} (h : CpusAt w C n now) (hc : c < n) : w.frozen? ⟨C, c * 17 + 9, none⟩ = false ∧ w.frozen? ⟨C, c * 17 + 10, none⟩ = false ∧ w.frozen? ⟨C, c * 17 + 11, none⟩ = false ∧ w.frozen? ⟨C, c * 17 + 12, none⟩ = false ∧ w.frozen? ⟨C, c * 17 + 13, none⟩ = false ∧ w.frozen? ⟨C, c * 17 + 14, none⟩ = false ∧ w.frozen? ⟨C, c * 17 + 15, none⟩ = false ∧ w.frozen? ⟨C, c * 17 + 16, none⟩ = false :=
  ⟨h.cf _ (by omega), h.cf _ (by omega), h.cf _ (by omega), h.cf _ (by omega), h.cf _ (by omega), h.cf _ (by omega), h.cf _ (by omega), h.cf _ (by omega)⟩

theorem PhasesAt.kept {w w' : World} {P : Nat} {ph : Nat → Nat} {l : List Nat} (h : PhasesAt w P ph) (hg : GrowBut w w' l) (hl : P ∉ l) : PhasesAt w' P ph :=
  ⟨fun i hi => hg.cell (h.pn i hi) hl, fun k hk => hg.frozen h.lt (h.pf k hk) hl, Nat.lt_of_lt_of_le h.lt hg.size⟩

theorem OwesAt.kept {w w' : World} {O : Nat} {ow : Nat → Bool} {l : List Nat} (h : OwesAt w O ow) (hg : GrowBut w w' l) (hl : O ∉ l) : OwesAt w' O ow :=
  ⟨fun i hi => hg.cell (h.on i hi) hl, fun k hk => hg.frozen h.lt (h.of k hk) hl, Nat.lt_of_lt_of_le h.lt hg.size⟩

structure HeadAt (w : World) (S C P O B K n : Nat) : Prop where
  s0 : w.cell? ⟨S, 0, none⟩ = some (.slice (some ⟨C, 0, none⟩) n n)
  s1 : w.cell? ⟨S, 1, none⟩ = some (.slice (some ⟨P, 0, none⟩) 5 5)
  s2 : w.cell? ⟨S, 2, none⟩ = some (.slice (some ⟨O, 0, none⟩) 5 5)
  s3 : w.cell? ⟨S, 3, none⟩ = some (.pointer (some ⟨B, 0, none⟩))
  s4 : w.cell? ⟨S, 4, none⟩ = some (.pointer (some ⟨K, 0, none⟩))

theorem HeadAt.kept {w w' : World} {S C P O B K n : Nat} {l : List Nat} (h : HeadAt w S C P O B K n) (hg : GrowBut w w' l) (hl : S ∉ l) : HeadAt w' S C P O B K n :=
  ⟨hg.cell h.s0 hl, hg.cell h.s1 hl, hg.cell h.s2 hl, hg.cell h.s3 hl, hg.cell h.s4 hl⟩

def BankIs (w : World) (B b N : Nat) : Prop := ∃ (D : DataW Value) (m : Nat), m ≤ N ∧ BankAt w B b m D

theorem BankAt.keptBut {w w' : World} {B b n : Nat} {D : DataW Value} {l : List Nat} (h : BankAt w B b n D) (hg : GrowBut w w' l) (h1 : b ∉ l) (h2 : B ∉ l) : BankAt w' B b n D :=
  ⟨hg.cell h.ptr h2, Nat.lt_of_lt_of_le h.lt hg.size, h.ne, hg.map h.own h1⟩

theorem BankIs.kept {w w' : World} {B b N : Nat} {l : List Nat} (h : BankIs w B b N) (hg : GrowBut w w' l) (h1 : b ∉ l) (h2 : B ∉ l) : BankIs w' B b N := by
  obtain ⟨D, m, hm, hb⟩ := h
  exact ⟨D, m, hm, hb.keptBut hg h1 h2⟩

theorem BankIs.more {w : World} {B b N N' : Nat} (h : BankIs w B b N) (hN : N ≤ N') : BankIs w B b N' := by
  obtain ⟨D, m, hm, hb⟩ := h
  exact ⟨D, m, by omega, hb⟩

def ChainIs (w : World) (K bt bf N : Nat) (L : List (Int × Int)) : Prop := ∃ m, m ≤ N ∧ ChainAt w K bt bf m L

theorem ChainIs.kept {w w' : World} {K bt bf N : Nat} {L : List (Int × Int)} {l : List Nat} (h : ChainIs w K bt bf N L) (hg : GrowBut w w' l) (h1 : K ∉ l) (h2 : bt ∉ l) (h3 : bf ∉ l) : ChainIs w' K bt bf N L := by
  obtain ⟨m, hm, hb⟩ := h
  exact ⟨m, hm, hb.kept hg h1 h2 h3⟩

theorem ChainIs.more {w : World} {K bt bf N N' : Nat} {L : List (Int × Int)} (h : ChainIs w K bt bf N L) (hN : N ≤ N') : ChainIs w K bt bf N' L := by
  obtain ⟨m, hm, hb⟩ := h
  exact ⟨m, by omega, hb⟩

structure SeatAt (w : World) (S C P O B b K bt bf n N : Nat) (now ph : Nat → Nat) (ow : Nat → Bool) (L : List (Int × Int)) : Prop where
  head : HeadAt w S C P O B K n
  n1 : 1 ≤ n
  n3 : n ≤ 3
  cpus : CpusAt w C n now
  phases : PhasesAt w P ph
  owes : OwesAt w O ow
  bank : BankIs w B b N
  chain : ChainIs w K bt bf N L
  inv : Inv n now ph ow L
  nd : [S, C, P, O, B, b, K, bt, bf].Nodup

theorem SeatAt.kept {w w' : World} {S C P O B b K bt bf n N : Nat} {now ph : Nat → Nat} {ow : Nat → Bool} {L : List (Int × Int)} (h : SeatAt w S C P O B b K bt bf n N now ph ow L) (hg : GrowBut w w' []) : SeatAt w' S C P O B b K bt bf n N now ph ow L :=
  ⟨h.head.kept hg (by simp), h.n1, h.n3, h.cpus.kept hg (by simp), h.phases.kept hg (by simp), h.owes.kept hg (by simp), h.bank.kept hg (by simp) (by simp), h.chain.kept hg (by simp) (by simp) (by simp), h.inv, h.nd⟩

theorem SeatAt.more {w : World} {S C P O B b K bt bf n N N' : Nat} {now ph : Nat → Nat} {ow : Nat → Bool} {L : List (Int × Int)} (h : SeatAt w S C P O B b K bt bf n N now ph ow L) (hN : N ≤ N') : SeatAt w S C P O B b K bt bf n N' now ph ow L :=
  ⟨h.head, h.n1, h.n3, h.cpus, h.phases, h.owes, h.bank.more hN, h.chain.more hN, h.inv, h.nd⟩

set_option maxRecDepth 100000 in
set_option maxHeartbeats 2000000 in
theorem sOf_calls (S C n c : Nat) (w : World) (h0 : w.cell? ⟨S, 0, none⟩ = some (.slice (some ⟨C, 0, none⟩) n n)) (hn : n ≤ 3) (hc : c < n) :
    Calls Try.prog 91 #[.pointer (some ⟨S, 0, none⟩), .int .i64 c] w fun e w' => e = .returned (.pointer (some ⟨C, c * 17, none⟩)) ∧ w' = w := by
  have hc' : (c : Int) < n := by omega
  go_enter Try.func91, Try.ntmps91
  go_wp2_with go_in
  go_ret
  exact ⟨by simp, rfl⟩

set_option maxRecDepth 100000 in
set_option maxHeartbeats 2000000 in
theorem sPart_calls (S P p : Nat) (w : World) (h1 : w.cell? ⟨S, 1, none⟩ = some (.slice (some ⟨P, 0, none⟩) 5 5)) (hp5 : p < 5) :
    Calls Try.prog 92 #[.pointer (some ⟨S, 0, none⟩), .int .i64 p] w fun e w' => e = .returned (.bool (decide (1 ≤ p))) ∧ w' = w := by
  have h5 : (p : Int) < 5 := by omega
  by_cases h : 1 ≤ p
  · have h0 : (0 : Int) < p := by omega
    go_enter Try.func92, Try.ntmps92
    go_wp2_with go_in
    go_ret
    exact ⟨by simp [h], rfl⟩
  · obtain rfl : p = 0 := by omega
    go_enter Try.func92, Try.ntmps92
    go_wp2_with go_in
    go_ret
    exact ⟨by simp, rfl⟩

/-! ### What the methods tell -/
set_option maxRecDepth 100000 in
set_option maxHeartbeats 2000000 in
theorem sNow_calls {S C P O B b K bt bf n N : Nat} {now ph : Nat → Nat} {ow : Nat → Bool} {L : List (Int × Int)} (c : Nat) (w : World) (h : SeatAt w S C P O B b K bt bf n N now ph ow L) (hc : c < n) :
    Calls Try.prog 49 #[.pointer (some ⟨S, 0, none⟩), .int .i64 c] w fun e w' => e = .returned (.int .i64 (now c)) ∧ w' = w := by
  have hO := sOf_calls S C n c w h.head.s0 h.n3 hc
  have hc0 := h.cpus.cn c hc
  go_enter Try.func49, Try.ntmps49
  go_wp2_with (first
    | (go_at_call 91; refine hO.mono ?_; rintro e w1 ⟨rfl, hw1⟩; rw [hw1]; clear hw1 w1)
    | go_in)
  go_ret
  exact ⟨rfl, rfl⟩

theorem CpusAt.regs {w : World} {C n : Nat} {now : Nat → Nat} (h : CpusAt w C n now) {c : Nat} (hc : c < n) : ∃ x : Nat → Int, ∀ j, 1 ≤ j → j < 17 → w.cell? ⟨C, c * 17 + j, none⟩ = some (.int .u64 (x j)) := by
  have := h.cr c hc
  refine ⟨fun j => if hj : 1 ≤ j ∧ j < 17 then (this j hj.1 hj.2).choose else 0, fun j h1 h2 => ?_⟩
  simp only [h1, h2, and_self, dite_true]
  exact (this j h1 h2).choose_spec

set_option maxRecDepth 100000 in
set_option maxHeartbeats 2000000 in
theorem sRegs_calls {S C P O B b K bt bf n N : Nat} {now ph : Nat → Nat} {ow : Nat → Bool} {L : List (Int × Int)} (c : Nat) (w : World) (h : SeatAt w S C P O B b K bt bf n N now ph ow L) (hc : c < n) :
    Calls Try.prog 50 #[.pointer (some ⟨S, 0, none⟩), .int .i64 c] w fun e w' => ∃ v, e = .returned v ∧ IsRegs v ∧ GrowBut w w' [] := by
  have hO := fun w1 (hg : GrowBut w w1 []) => sOf_calls S C n c w1 (hg.cell h.head.s0 (by simp)) h.n3 hc
  obtain ⟨x, hx⟩ := h.cpus.regs hc
  have x1 := hx 1 (by omega) (by omega)
  have x2 := hx 2 (by omega) (by omega)
  have x3 := hx 3 (by omega) (by omega)
  have x4 := hx 4 (by omega) (by omega)
  have x5 := hx 5 (by omega) (by omega)
  have x6 := hx 6 (by omega) (by omega)
  have x7 := hx 7 (by omega) (by omega)
  have x8 := hx 8 (by omega) (by omega)
  have hC := h.cpus.lt
  have hz : ∀ j, (w.alloc (.cells #[.int .u64 0, .int .u64 0, .int .u64 0, .int .u64 0, .int .u64 0, .int .u64 0, .int .u64 0, .int .u64 0] 86)).frozen? ⟨w.heap.size, j, none⟩ = false := fun j => by go_simp
  clear hx
  generalize c * 17 = o at *
  go_enter Try.func50, Try.ntmps50
  go_wp2_with (first
    | (go_at_call 91; refine (hO _ (GrowBut.alloc _ _ [])).mono ?_; rintro e w1 ⟨rfl, hw1⟩; rw [hw1]; clear hw1 w1)
    | go_in)
  refine bodyPost_ret_by (v := .agg #[.int .u64 (x 1), .int .u64 (x 2), .int .u64 (x 3), .int .u64 (x 4), .int .u64 (x 5), .int .u64 (x 6), .int .u64 (x 7), .int .u64 (x 8)]) ?_ rfl ?_
  · simp only [results, Try.f50]; go_simp
  · exact ⟨_, rfl, ⟨_, _, _, _, _, _, _, _, rfl⟩, GrowBut.alloc _ _ []⟩

set_option maxRecDepth 100000 in
set_option maxHeartbeats 2000000 in
theorem sPhase_calls {S C P O B b K bt bf n N : Nat} {now ph : Nat → Nat} {ow : Nat → Bool} {L : List (Int × Int)} (p : Nat) (w : World) (h : SeatAt w S C P O B b K bt bf n N now ph ow L) (hp : 1 ≤ p) (hp5 : p < 5) :
    Calls Try.prog 52 #[.pointer (some ⟨S, 0, none⟩), .int .i64 p] w fun e w' => e = .returned (.int .i64 (ph p)) ∧ w' = w := by
  have hO := sPart_calls S P p w h.head.s1 hp5
  rw [decide_eq_true hp] at hO
  have h1 := h.head.s1
  have hp0 := h.phases.pn p hp5
  have hlt : (p : Int) < 5 := by omega
  go_enter Try.func52, Try.ntmps52
  go_wp2_with (first
    | (go_at_call 92; refine hO.mono ?_; rintro e w1 ⟨rfl, hw1⟩; rw [hw1]; clear hw1 w1)
    | go_in)
  go_ret
  exact ⟨rfl, rfl⟩

set_option maxRecDepth 100000 in
set_option maxHeartbeats 2000000 in
theorem sOwes_calls {S C P O B b K bt bf n N : Nat} {now ph : Nat → Nat} {ow : Nat → Bool} {L : List (Int × Int)} (p : Nat) (w : World) (h : SeatAt w S C P O B b K bt bf n N now ph ow L) (hp : 1 ≤ p) (hp5 : p < 5) :
    Calls Try.prog 54 #[.pointer (some ⟨S, 0, none⟩), .int .i64 p] w fun e w' => e = .returned (.bool (ow p)) ∧ w' = w := by
  have hO := sPart_calls S P p w h.head.s1 hp5
  rw [decide_eq_true hp] at hO
  have h1 := h.head.s2
  have hp0 := h.owes.on p hp5
  have hlt : (p : Int) < 5 := by omega
  go_enter Try.func54, Try.ntmps54
  go_wp2_with (first
    | (go_at_call 92; refine hO.mono ?_; rintro e w1 ⟨rfl, hw1⟩; rw [hw1]; clear hw1 w1)
    | go_in)
  go_ret
  exact ⟨rfl, rfl⟩

set_option maxRecDepth 100000 in
set_option maxHeartbeats 2000000 in
theorem sLinks_calls {S C P O B b K bt bf n N : Nat} {now ph : Nat → Nat} {ow : Nat → Bool} {L : List (Int × Int)} (w : World) (h : SeatAt w S C P O B b K bt bf n N now ph ow L) (hN : N ≤ 100000) :
    Calls Try.prog 53 #[.pointer (some ⟨S, 0, none⟩)] w fun e w' => ∃ v M, e = .returned v ∧ M.Perm L ∧ LinksRow w w' M v ∧ GrowBut w w' [] := by
  obtain ⟨m, hm, hch⟩ := h.chain
  have hL := linksM_calls K bt bf m L w hch (by omega)
  have h4 := h.head.s4
  go_enter Try.func53, Try.ntmps53
  go_wp2_with (first
    | (go_at_call 101; refine hL.mono ?_; rintro e w1 ⟨v, M, rfl, hp, hrow, hg⟩)
    | go_in)
  go_ret
  exact ⟨_, _, rfl, hp, hrow, hg⟩

end Go.Proofs.Ythhfokbfdeghpaa
