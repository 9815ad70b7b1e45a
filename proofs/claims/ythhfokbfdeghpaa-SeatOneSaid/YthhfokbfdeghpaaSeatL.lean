/-
  Package seat: Leave.
-/
import Derived.Test.YthhfokbfdeghpaaSeatG
import Derived.BigQuiet
import Derived.Deep.RegionHeld3
namespace Go.Proofs.Ythhfokbfdeghpaa
open Go Go.RowKit Go.Maps Go.Am
set_option linter.unusedVariables false

/-- Registers in memory. -/
structure BoxAt (w : World) (A : Nat) (x0 x1 x2 x3 x4 x5 x6 x7 : Int) : Prop where
  c0 : w.cell? ⟨A, 0, none⟩ = some (.int .u64 x0)
  c1 : w.cell? ⟨A, 1, none⟩ = some (.int .u64 x1)
  c2 : w.cell? ⟨A, 2, none⟩ = some (.int .u64 x2)
  c3 : w.cell? ⟨A, 3, none⟩ = some (.int .u64 x3)
  c4 : w.cell? ⟨A, 4, none⟩ = some (.int .u64 x4)
  c5 : w.cell? ⟨A, 5, none⟩ = some (.int .u64 x5)
  c6 : w.cell? ⟨A, 6, none⟩ = some (.int .u64 x6)
  c7 : w.cell? ⟨A, 7, none⟩ = some (.int .u64 x7)
  lt : A < w.heap.size

theorem BoxAt.kept {w w' : World} {A : Nat} {x0 x1 x2 x3 x4 x5 x6 x7 : Int} {l : List Nat} (h : BoxAt w A x0 x1 x2 x3 x4 x5 x6 x7) (hg : GrowBut w w' l) (hl : A ∉ l) : BoxAt w' A x0 x1 x2 x3 x4 x5 x6 x7 :=
  ⟨hg.cell h.c0 hl, hg.cell h.c1 hl, hg.cell h.c2 hl, hg.cell h.c3 hl, hg.cell h.c4 hl, hg.cell h.c5 hl, hg.cell h.c6 hl, hg.cell h.c7 hl, Nat.lt_of_lt_of_le h.lt hg.size⟩

theorem boxAt_new (w : World) (t : TypeId) (x0 x1 x2 x3 x4 x5 x6 x7 : Int) : BoxAt (w.alloc (.cells #[.int .u64 x0, .int .u64 x1, .int .u64 x2, .int .u64 x3, .int .u64 x4, .int .u64 x5, .int .u64 x6, .int .u64 x7] t)) w.heap.size x0 x1 x2 x3 x4 x5 x6 x7 := by
  constructor <;> first | go_simp | simp

theorem SeatAt.lts {w : World} {S C P O B b K bt bf n N : Nat} {now ph : Nat → Nat} {ow : Nat → Bool} {L : List (Int × Int)} (h : SeatAt w S C P O B b K bt bf n N now ph ow L) : ∀ x ∈ [S, C, P, O, B, b, K, bt, bf], x < w.heap.size := by
  have cl : ∀ {a : Nat} {v : Value}, w.cell? ⟨a, 0, none⟩ = some v → a < w.heap.size := fun {a v} hc => by
    by_cases h2 : a < w.heap.size
    · exact h2
    · exfalso
      have h3 : w.heap[a]? = none := Array.getElem?_eq_none (by omega)
      simp [World.cell?, h3] at hc
  obtain ⟨D, m, _, hb⟩ := h.bank
  obtain ⟨k, _, hc⟩ := h.chain
  obtain ⟨D1, ho1, _⟩ := hc.own_t
  obtain ⟨D2, ho2, _⟩ := hc.own_f
  intro x hx
  simp only [List.mem_cons, List.not_mem_nil, or_false] at hx
  rcases hx with rfl | rfl | rfl | rfl | rfl | rfl | rfl | rfl | rfl
  · exact cl h.head.s0
  · exact h.cpus.lt
  · exact h.phases.lt
  · exact h.owes.lt
  · exact hb.lt
  · exact hb.own.lt
  · exact hc.lt
  · exact ho1.lt
  · exact ho2.lt

theorem tab_leave {ev : Int} (hev : ev = 6 ∨ ev = 7 ∨ ev = 8) : ∃ v : Nat, Am.tabLook ((2 : Nat) : Int) ev = some (v : Int) ∧ (v = 1 ∨ v = 4 ∨ v = 5) := by
  rcases hev with rfl | rfl | rfl
  · exact ⟨5, by kernel_rfl, by simp⟩
  · exact ⟨1, by kernel_rfl, by simp⟩
  · exact ⟨4, by kernel_rfl, by simp⟩

/-- Blocks apart. -/
structure Apart (S C P O B b K bt bf : Nat) : Prop where
  S_C : S ≠ C
  S_P : S ≠ P
  S_O : S ≠ O
  S_B : S ≠ B
  S_b : S ≠ b
  S_K : S ≠ K
  S_bt : S ≠ bt
  S_bf : S ≠ bf
  C_S : C ≠ S
  C_P : C ≠ P
  C_O : C ≠ O
  C_B : C ≠ B
  C_b : C ≠ b
  C_K : C ≠ K
  C_bt : C ≠ bt
  C_bf : C ≠ bf
  P_S : P ≠ S
  P_C : P ≠ C
  P_O : P ≠ O
  P_B : P ≠ B
  P_b : P ≠ b
  P_K : P ≠ K
  P_bt : P ≠ bt
  P_bf : P ≠ bf
  O_S : O ≠ S
  O_C : O ≠ C
  O_P : O ≠ P
  O_B : O ≠ B
  O_b : O ≠ b
  O_K : O ≠ K
  O_bt : O ≠ bt
  O_bf : O ≠ bf
  B_S : B ≠ S
  B_C : B ≠ C
  B_P : B ≠ P
  B_O : B ≠ O
  B_b : B ≠ b
  B_K : B ≠ K
  B_bt : B ≠ bt
  B_bf : B ≠ bf
  b_S : b ≠ S
  b_C : b ≠ C
  b_P : b ≠ P
  b_O : b ≠ O
  b_B : b ≠ B
  b_K : b ≠ K
  b_bt : b ≠ bt
  b_bf : b ≠ bf
  K_S : K ≠ S
  K_C : K ≠ C
  K_P : K ≠ P
  K_O : K ≠ O
  K_B : K ≠ B
  K_b : K ≠ b
  K_bt : K ≠ bt
  K_bf : K ≠ bf
  bt_S : bt ≠ S
  bt_C : bt ≠ C
  bt_P : bt ≠ P
  bt_O : bt ≠ O
  bt_B : bt ≠ B
  bt_b : bt ≠ b
  bt_K : bt ≠ K
  bt_bf : bt ≠ bf
  bf_S : bf ≠ S
  bf_C : bf ≠ C
  bf_P : bf ≠ P
  bf_O : bf ≠ O
  bf_B : bf ≠ B
  bf_b : bf ≠ b
  bf_K : bf ≠ K
  bf_bt : bf ≠ bt

theorem apart_of {S C P O B b K bt bf : Nat} (h : [S, C, P, O, B, b, K, bt, bf].Nodup) : Apart S C P O B b K bt bf := by
  simp only [List.nodup_cons, List.mem_cons, List.not_mem_nil, or_false, not_or, not_false_eq_true, List.nodup_nil, and_true] at h
  obtain ⟨⟨hSC, hSP, hSO, hSB, hSb, hSK, hSbt, hSbf⟩, ⟨hCP, hCO, hCB, hCb, hCK, hCbt, hCbf⟩, ⟨hPO, hPB, hPb, hPK, hPbt, hPbf⟩, ⟨hOB, hOb, hOK, hObt, hObf⟩, ⟨hBb, hBK, hBbt, hBbf⟩, ⟨hbK, hbbt, hbbf⟩, ⟨hKbt, hKbf⟩, hbtbf⟩ := h
  exact ⟨hSC, hSP, hSO, hSB, hSb, hSK, hSbt, hSbf, fun e => hSC e.symm, hCP, hCO, hCB, hCb, hCK, hCbt, hCbf, fun e => hSP e.symm, fun e => hCP e.symm, hPO, hPB, hPb, hPK, hPbt, hPbf, fun e => hSO e.symm, fun e => hCO e.symm, fun e => hPO e.symm, hOB, hOb, hOK, hObt, hObf, fun e => hSB e.symm, fun e => hCB e.symm, fun e => hPB e.symm, fun e => hOB e.symm, hBb, hBK, hBbt, hBbf, fun e => hSb e.symm, fun e => hCb e.symm, fun e => hPb e.symm, fun e => hOb e.symm, fun e => hBb e.symm, hbK, hbbt, hbbf, fun e => hSK e.symm, fun e => hCK e.symm, fun e => hPK e.symm, fun e => hOK e.symm, fun e => hBK e.symm, fun e => hbK e.symm, hKbt, hKbf, fun e => hSbt e.symm, fun e => hCbt e.symm, fun e => hPbt e.symm, fun e => hObt e.symm, fun e => hBbt e.symm, fun e => hbbt e.symm, fun e => hKbt e.symm, hbtbf, fun e => hSbf e.symm, fun e => hCbf e.symm, fun e => hPbf e.symm, fun e => hObf e.symm, fun e => hBbf e.symm, fun e => hbbf e.symm, fun e => hKbf e.symm, fun e => hbtbf e.symm⟩

/-- The blocks that a method may turn. -/
abbrev turns (C P O b bt bf : Nat) : List Nat := [C, P, O, b, bt, bf]

set_option maxRecDepth 100000 in
set_option maxHeartbeats 4000000 in
theorem leave_no {S C P O B b K bt bf n N : Nat} {now ph : Nat → Nat} {ow : Nat → Bool} {L : List (Int × Int)} (c : Nat) (ev : Int) (own r : Value) (w : World) (h : SeatAt w S C P O B b K bt bf n N now ph ow L) (hc : c < n) (hev : ev = 6 ∨ ev = 7 ∨ ev = 8) (ho : IsRegs own) (hr : IsRegs r) (hno : now c = 0 ∨ (ev = 7 ∧ ow (now c) = true)) :
    Calls Try.prog 48 #[.pointer (some ⟨S, 0, none⟩), .int .i64 c, .int .i64 ev, own, r] w fun e w' => e = .returned (.int .i64 (-6)) ∧ GrowBut w w' [] := by
  obtain ⟨a0, a1, a2, a3, a4, a5, a6, a7, rfl⟩ := ho
  obtain ⟨r0, r1, r2, r3, r4, r5, r6, r7, rfl⟩ := hr
  have hO := fun w1 (hg : GrowBut w w1 []) => sOf_calls S C n c w1 (hg.cell h.head.s0 (by simp)) h.n3 hc
  have hG := (GrowBut.alloc w (.cells #[.int .u64 a0, .int .u64 a1, .int .u64 a2, .int .u64 a3, .int .u64 a4, .int .u64 a5, .int .u64 a6, .int .u64 a7] 86) []).trans (GrowBut.alloc _ (.cells #[.int .u64 r0, .int .u64 r1, .int .u64 r2, .int .u64 r3, .int .u64 r4, .int .u64 r5, .int .u64 r6, .int .u64 r7] 86) [])
  have h5 := h.inv.lt c hc
  have hlt5 : (now c : Int) < 5 := by omega
  have hk : ∀ w1, GrowBut w w1 [] → w1.cell? ⟨C, c * 17, none⟩ = some (.int .i64 (now c)) ∧ w1.cell? ⟨S, 2, none⟩ = some (.slice (some ⟨O, 0, none⟩) 5 5) ∧ w1.cell? ⟨O, now c, none⟩ = some (.bool (ow (now c))) := fun w1 hg => ⟨hg.cell (h.cpus.cn c hc) (by simp), hg.cell h.head.s2 (by simp), hg.cell (h.owes.on _ h5) (by simp)⟩
  generalize c * 17 = o at *
  clear h
  rcases Nat.eq_zero_or_pos (now c) with h0 | h0
  · rw [h0] at hk
    simp only [Int.natCast_zero] at hk
    clear hno h0 hlt5 h5
    rcases hev with rfl | rfl | rfl
    all_goals
      go_enter Try.func48, Try.ntmps48
      go_wp2_with (first
        | (go_at_call 91; refine (hO _ hG).mono ?_; rintro e w1 ⟨rfl, hw1⟩; have hg1 : GrowBut w w1 [] := hw1 ▸ hG; obtain ⟨y1, y2, y3⟩ := hk w1 hg1; clear hk hw1)
        | go_in)
      go_quiet (fail)
      go_wp2_with go_in
      go_ret
      exact ⟨rfl, hg1.trans (GrowBut.drewN _ _ _)⟩
  · have hno' : ev = 7 ∧ ow (now c) = true := hno.resolve_left (by omega)
    obtain ⟨rfl, how⟩ := hno'
    have hn0 : ¬ (now c : Int) = 0 := by omega
    have hb0 : ((now c : Int) == 0) = false := by simpa using hn0
    rw [how] at hk
    clear hno h0 hev how
    generalize now c = q at *
    go_enter Try.func48, Try.ntmps48
    go_wp2_with (first
      | (go_at_call 91; refine (hO _ hG).mono ?_; rintro e w1 ⟨rfl, hw1⟩; have hg1 : GrowBut w w1 [] := hw1 ▸ hG; obtain ⟨y1, y2, y3⟩ := hk w1 hg1; clear hk hw1)
      | go_in)
    go_quiet (fail)
    go_wp2_with go_in
    go_ret
    exact ⟨rfl, hg1.trans (GrowBut.drewN _ _ _)⟩

set_option maxRecDepth 100000 in
set_option maxHeartbeats 4000000 in
theorem leave_ok {S C P O B b K bt bf n N : Nat} {now ph : Nat → Nat} {ow : Nat → Bool} {L : List (Int × Int)} (c : Nat) (ev : Int) (own r : Value) (w : World) (h : SeatAt w S C P O B b K bt bf n N now ph ow L) (hc : c < n) (hev : ev = 6 ∨ ev = 7 ∨ ev = 8) (ho : IsRegs own) (hr : IsRegs r) (hq : now c ≠ 0) (hno : ev = 7 → ow (now c) = false) (hN : N ≤ 100000) :
    Calls Try.prog 48 #[.pointer (some ⟨S, 0, none⟩), .int .i64 c, .int .i64 ev, own, r] w fun e w' => e = .returned (.int .i64 0) ∧ (∃ ph', SeatAt w' S C P O B b K bt bf n (N + 1) (up now c 0) ph' ow L) ∧ GrowBut w w' (turns C P O b bt bf) := by
  obtain ⟨a0, a1, a2, a3, a4, a5, a6, a7, rfl⟩ := ho
  obtain ⟨r0, r1, r2, r3, r4, r5, r6, r7, rfl⟩ := hr
  obtain ⟨v, hv, hv'⟩ := tab_leave hev
  have hph := h.inv.running hc hq
  have hinv := h.inv.leave hc hq hv'
  have h5 := h.inv.lt c hc
  have hlts := h.lts
  have hnd := h.nd
  have hO := fun w1 (hg : GrowBut w w1 []) => sOf_calls S C n c w1 (hg.cell h.head.s0 (by simp)) h.n3 hc
  have hG := (GrowBut.alloc w (.cells #[.int .u64 a0, .int .u64 a1, .int .u64 a2, .int .u64 a3, .int .u64 a4, .int .u64 a5, .int .u64 a6, .int .u64 a7] 86) []).trans (GrowBut.alloc _ (.cells #[.int .u64 r0, .int .u64 r1, .int .u64 r2, .int .u64 r3, .int .u64 r4, .int .u64 r5, .int .u64 r6, .int .u64 r7] 86) [])
  have hA := (boxAt_new w 86 a0 a1 a2 a3 a4 a5 a6 a7).kept (GrowBut.alloc _ (.cells #[.int .u64 r0, .int .u64 r1, .int .u64 r2, .int .u64 r3, .int .u64 r4, .int .u64 r5, .int .u64 r6, .int .u64 r7] 86) []) (by simp)
  have hR := boxAt_new (w.alloc (.cells #[.int .u64 a0, .int .u64 a1, .int .u64 a2, .int .u64 a3, .int .u64 a4, .int .u64 a5, .int .u64 a6, .int .u64 a7] 86)) 86 r0 r1 r2 r3 r4 r5 r6 r7
  have hs1 := h.kept hG
  have hRA : w.heap.size < (w.alloc (.cells #[.int .u64 a0, .int .u64 a1, .int .u64 a2, .int .u64 a3, .int .u64 a4, .int .u64 a5, .int .u64 a6, .int .u64 a7] 86)).heap.size := by simp
  have hRi : IsRegs (.agg #[.int .u64 a0, .int .u64 a1, .int .u64 a2, .int .u64 a3, .int .u64 a4, .int .u64 a5, .int .u64 a6, .int .u64 a7]) := ⟨_, _, _, _, _, _, _, _, rfl⟩
  have hnA : ∀ x ∈ [S, C, P, O, B, b, K, bt, bf], x ≠ w.heap.size ∧ x ≠ w.heap.size + 1 := fun x hx => by have := hlts x hx; omega
  have hw : ∀ w1, w1 = (w.alloc (.cells #[.int .u64 a0, .int .u64 a1, .int .u64 a2, .int .u64 a3, .int .u64 a4, .int .u64 a5, .int .u64 a6, .int .u64 a7] 86)).alloc (.cells #[.int .u64 r0, .int .u64 r1, .int .u64 r2, .int .u64 r3, .int .u64 r4, .int .u64 r5, .int .u64 r6, .int .u64 r7] 86) →
      GrowBut w w1 [] ∧ SeatAt w1 S C P O B b K bt bf n N now ph ow L ∧ BoxAt w1 w.heap.size a0 a1 a2 a3 a4 a5 a6 a7 ∧ BoxAt w1 (w.heap.size + 1) r0 r1 r2 r3 r4 r5 r6 r7 := fun w1 e => by
    rw [World.size_alloc] at hR
    subst e
    exact ⟨hG, hs1, hA, hR⟩
  -- the calls, wherever they are made
  have hgoes : ∀ w2, SeatAt w2 S C P O B b K bt bf n N now ph ow L → Calls Try.prog 95 #[.pointer (some ⟨S, 0, none⟩), .int .i64 (now c), .int .i64 ev] w2 fun e w' => e = .returned (.bool true) ∧ PhasesAt w' P (up ph (now c) v) ∧ GrowBut w2 w' [P] := fun w2 h2 =>
    goes_some S P (now c) v ev ph w2 h2.head.s1 h2.phases (by omega) h5 (by rw [hph]; exact hv)
  have hlay : ∀ w2, HeadAt w2 S C P O B K n → CpusAt w2 C n now → BankIs w2 B b N → Calls Try.prog 98 #[.pointer (some ⟨S, 0, none⟩), .pointer (some ⟨C, c * 17, none⟩), .agg #[.int .u64 a0, .int .u64 a1, .int .u64 a2, .int .u64 a3, .int .u64 a4, .int .u64 a5, .int .u64 a6, .int .u64 a7]] w2 fun e w' => e = .returned (.tuple #[]) ∧ BankIs w' B b (N + 1) ∧ GrowBut w2 w' [b] := fun w2 hH hC hB =>
    lay_save w2 hH hC hB hc hRi hq h5 hN
  have hcpu : ∀ w2, CpusAt w2 C n now → w2.cell? ⟨C, c * 17, none⟩ = some (.int .i64 (now c)) ∧ CpuTurn w2 w2 C (c * 17) (now c) ∧ ∃ x : Nat → Int, (w2.cell? ⟨C, c * 17 + 1, none⟩ = some (.int .u64 (x 1)) ∧ w2.cell? ⟨C, c * 17 + 2, none⟩ = some (.int .u64 (x 2)) ∧ w2.cell? ⟨C, c * 17 + 3, none⟩ = some (.int .u64 (x 3)) ∧ w2.cell? ⟨C, c * 17 + 4, none⟩ = some (.int .u64 (x 4)) ∧
      w2.cell? ⟨C, c * 17 + 5, none⟩ = some (.int .u64 (x 5)) ∧ w2.cell? ⟨C, c * 17 + 6, none⟩ = some (.int .u64 (x 6)) ∧ w2.cell? ⟨C, c * 17 + 7, none⟩ = some (.int .u64 (x 7)) ∧ w2.cell? ⟨C, c * 17 + 8, none⟩ = some (.int .u64 (x 8))) := fun w2 h2 => by
    obtain ⟨x, hx⟩ := h2.regs hc
    exact ⟨h2.cn c hc, h2.begin hc, x, hx 1 (by omega) (by omega), hx 2 (by omega) (by omega), hx 3 (by omega) (by omega), hx 4 (by omega) (by omega), hx 5 (by omega) (by omega), hx 6 (by omega) (by omega), hx 7 (by omega) (by omega), hx 8 (by omega) (by omega)⟩
  have hend : ∀ w2 w3, CpusAt w2 C n now → CpuTurn w2 w3 C (c * 17) 0 → CpusAt w3 C n (up now c 0) ∧ GrowBut w2 w3 [C] := fun w2 w3 h2 ht => ⟨h2.ends hc ht, ht.only.grow⟩
  have hfz := fun w2 (h2 : CpusAt w2 C n now) => h2.fz9 hc
  have hpad : ∀ w2, SeatAt w2 S C P O B b K bt bf n N now ph ow L → w2.cell? ⟨S, 2, none⟩ = some (.slice (some ⟨O, 0, none⟩) 5 5) ∧ w2.cell? ⟨O, now c, none⟩ = some (.bool (ow (now c))) := fun w2 h2 => ⟨h2.head.s2, h2.owes.on _ h5⟩
  have hlt5 : (now c : Int) < 5 := by omega
  have hn0 : ¬ (now c : Int) = 0 := by omega
  have hb0 : ((now c : Int) == 0) = false := by simpa using hn0
  have hne := apart_of hnd
  clear hq hv hv' hph hRi h hs1 hA hR hRA hlts
  generalize hpq : now c = q at hgoes hcpu hpad hlt5 hn0 hb0 hno
  generalize hoo : c * 17 = o at *
  generalize hbo : ow q = bo at hpad hno
  rcases hev with rfl | rfl | rfl
  case' inr.inl => obtain rfl := hno rfl
  all_goals
    go_enter Try.func48, Try.ntmps48
    go_wp2_with (first
      | (go_at_call 91; refine (hO _ hG).mono ?_; rintro e w1 ⟨rfl, hw1⟩; obtain ⟨hg1, hs1, hA, hR⟩ := hw w1 hw1; clear hw1 hw hG hO; obtain ⟨y2, y3⟩ := hpad w1 hs1; obtain ⟨y1, _⟩ := hcpu w1 hs1.cpus)
      | go_in)
    go_quiet (fail)
    have hs2 := hs1.kept (GrowBut.drewN w1 nq [])
    have hA2 := hA.kept (GrowBut.drewN w1 nq []) (by simp)
    have hR2 := hR.kept (GrowBut.drewN w1 nq []) (by simp)
    have hg2 := hg1.trans (GrowBut.drewN w1 nq [])
    clear hs1 hA hR hg1 y1 y2 y3
    obtain ⟨y1, _⟩ := hcpu _ hs2.cpus
    generalize w1.drewN nq = w2 at hs2 hA2 hR2 hg2 y1 ⊢
    go_upto_region 7 with (first
      | (go_at_call 95; refine (hgoes w2 hs2).mono ?_; clear hgoes; rintro e w3 ⟨rfl, hP3, hg3⟩)
      | go_in)
    have hA3 := hA2.kept hg3 (by simpa using fun e => (hnA P (by simp)).1 e.symm)
    have hR3 := hR2.kept hg3 (by simpa using fun e => (hnA P (by simp)).2 e.symm)
    have hH3 := hs2.head.kept hg3 (by simpa using hne.S_P)
    have hC3 := hs2.cpus.kept hg3 (by simpa using hne.C_P)
    have hB3 := hs2.bank.kept hg3 (by simpa using hne.b_P) (by simpa using hne.B_P)
    obtain ⟨f0, f1, f2, f3, f4, f5, f6, f7, _⟩ := hA3
    go_upto_region 8 with (first
      | (go_at_call 98; refine (hlay w3 hH3 hC3 hB3).mono ?_; clear hlay; rintro e w4 ⟨rfl, hB4, hg4⟩)
      | go_in)
    clear f0 f1 f2 f3 f4 f5 f6 f7
    have hR4 := hR3.kept hg4 (by simpa using fun e => (hnA b (by simp)).2 e.symm)
    have hC4 := hC3.kept hg4 (by simpa using hne.C_b)
    obtain ⟨f0, f1, f2, f3, f4, f5, f6, f7, hRl⟩ := hR4
    obtain ⟨z0, zt, x, z1, z2, z3, z4, z5, z6, z7, z8⟩ := hcpu _ hC4
    obtain ⟨zf0, zf1, zf2, zf3, zf4, zf5, zf6, zf7, zf8⟩ := hfz _ hC4
    clear hfz
    have hRC : ¬ C = w.heap.size + 1 := (hnA C (by simp)).2
    have hCR : ¬ w.heap.size + 1 = C := fun e => hRC e.symm
    clear hcpu
    generalize w.heap.size + 1 = R at *
    go_region_held3 (fun w' => w'.cell? ⟨R, 0, none⟩ = some (.int .u64 r0) ∧ w'.cell? ⟨R, 1, none⟩ = some (.int .u64 r1) ∧ w'.cell? ⟨R, 2, none⟩ = some (.int .u64 r2) ∧ w'.cell? ⟨R, 3, none⟩ = some (.int .u64 r3) ∧ w'.cell? ⟨R, 4, none⟩ = some (.int .u64 r4) ∧ w'.cell? ⟨R, 5, none⟩ = some (.int .u64 r5) ∧ w'.cell? ⟨R, 6, none⟩ = some (.int .u64 r6) ∧ w'.cell? ⟨R, 7, none⟩ = some (.int .u64 r7)) (go_keep) (fail)
    have ht := (zt.setN 0).set8 1 r0 r1 r2 r3 r4 r5 r6 r7 (by omega) (by omega)
    obtain ⟨hC5, hg5⟩ := hend w4 _ hC4 ht
    have hS4 := hH3.kept hg4 (by simpa using hne.S_b)
    have hfin : ∀ w5, CpusAt w5 C n (up now c 0) → GrowBut w4 w5 [C] → (∃ ph', SeatAt w5 S C P O B b K bt bf n (N + 1) (up now c 0) ph' ow L) ∧ GrowBut w w5 (turns C P O b bt bf) := fun w5 hC5 hg5 => ⟨⟨_, hS4.kept hg5 (by simpa using hne.S_C), hs2.n1, hs2.n3, hC5, (hP3.kept hg4 (by simpa using hne.P_b)).kept hg5 (by simpa using hne.P_C), ((hs2.owes.kept hg3 (by simpa using hne.O_P)).kept hg4 (by simpa using hne.O_b)).kept hg5 (by simpa using hne.O_C),
      hB4.kept hg5 (by simpa using hne.b_C) (by simpa using hne.B_C), (((hs2.chain.kept hg3 (by simpa using hne.K_P) (by simpa using hne.bt_P) (by simpa using hne.bf_P)).kept hg4 (by simpa using hne.K_b) (by simpa using hne.bt_b) (by simpa using hne.bf_b)).kept hg5 (by simpa using hne.K_C) (by simpa using hne.bt_C) (by simpa using hne.bf_C)).more (by omega), by rw [← hpq]; exact hinv, hnd⟩,
      (((hg2.mono (by simp)).trans (hg3.mono (by simp))).trans (hg4.mono (by simp))).trans (hg5.mono (by simp))⟩
    clear hg3 hg4 hP3 hH3 hC3 hB3 hs2 hR2 hR3 hA2 hB4 hS4
    go_wp2_with go_in
    go_ret
    exact ⟨rfl, hfin _ (hC5.kept (GrowBut.drew _ []) (by simp)) (hg5.trans (GrowBut.drew _ _))⟩

end Go.Proofs.Ythhfokbfdeghpaa
