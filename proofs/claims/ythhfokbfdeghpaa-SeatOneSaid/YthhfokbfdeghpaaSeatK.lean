/-
  Package seat: Call.
-/
import Derived.Test.YthhfokbfdeghpaaSeatA
namespace Go.Proofs.Ythhfokbfdeghpaa
open Go Go.RowKit Go.Maps Go.Am
set_option linter.unusedVariables false

/-- What is behind the question whether a part may be called: goes, goes, lay, and the stores. -/
structure CallTail (w0 : World) (S C P O B b K bt bf n N c t : Nat) (now ph ph1 : Nat → Nat) (ow : Nat → Bool) (L' : List (Int × Int)) : Prop where
  goes1 : ∀ w2, HeadAt w2 S C P O B K n → PhasesAt w2 P ph → Calls Try.prog 95 #[.pointer (some ⟨S, 0, none⟩), .int .i64 (now c), .int .i64 2] w2 fun e w' => e = .returned (.bool true) ∧ PhasesAt w' P ph1 ∧ GrowBut w2 w' [P]
  goes2 : ∀ w2, HeadAt w2 S C P O B K n → PhasesAt w2 P ph1 → Calls Try.prog 95 #[.pointer (some ⟨S, 0, none⟩), .int .i64 t, .int .i64 3] w2 fun e w' => e = .returned (.bool true) ∧ PhasesAt w' P (up ph1 t 2) ∧ GrowBut w2 w' [P]
  lay : ∀ w2 v, IsRegs v → HeadAt w2 S C P O B K n → CpusAt w2 C n now → BankIs w2 B b N → Calls Try.prog 98 #[.pointer (some ⟨S, 0, none⟩), .pointer (some ⟨C, c * 17, none⟩), v] w2 fun e w' => e = .returned (.tuple #[]) ∧ CpusAt w' C n now ∧ BankIs w' B b (N + 1) ∧ GrowBut w2 w' [C, b]
  inv : Inv n (up now c t) (up ph1 t 2) (up ow t true) L'

structure CallMid (w : World) (S C P O B b K n N : Nat) (now ph : Nat → Nat) (ow : Nat → Bool) : Prop where
  head : HeadAt w S C P O B K n
  n1 : 1 ≤ n
  n3 : n ≤ 3
  cpus : CpusAt w C n now
  phases : PhasesAt w P ph
  owes : OwesAt w O ow
  bank : BankIs w B b N

theorem tail_zero {w : World} {S C P O B b K bt bf n N c t : Nat} {now ph : Nat → Nat} {ow : Nat → Bool} {L : List (Int × Int)} (h : SeatAt w S C P O B b K bt bf n N now ph ow L) (hc : c < n) (ht1 : 1 ≤ t) (ht5 : t < 5) (htw : ph t = 1) (h0 : now c = 0) : CallTail w S C P O B b K bt bf n N c t now ph ph ow L := by
  have hne := apart_of h.nd
  refine ⟨fun w2 hH hP => ?_, fun w2 hH hP => ?_, fun w2 v hv hH hC hB => ?_, h.inv.call0 hc h0 ht1 ht5 htw⟩
  · rw [h0]
    exact (goes0_calls S 2 w2).mono fun r w' ⟨h1, h2⟩ => ⟨h1, by rw [h2]; exact hP, by rw [h2]; exact .refl _ _⟩
  · exact goes_some S P t 2 3 ph w2 hH.s1 hP ht1 ht5 (by rw [htw]; exact tab13)
  · exact (lay_zero w2 hC hc hv h0).mono fun r w' ⟨h1, h2, h3⟩ => ⟨h1, h2, (hB.kept h3 (by simpa using hne.b_C) (by simpa using hne.B_C)).more (by omega), h3.mono (by simp)⟩

theorem tail_part {w : World} {S C P O B b K bt bf n N c t : Nat} {now ph : Nat → Nat} {ow : Nat → Bool} {L : List (Int × Int)} (h : SeatAt w S C P O B b K bt bf n N now ph ow L) (hc : c < n) (ht1 : 1 ≤ t) (ht5 : t < 5) (htw : ph t = 1) (h0 : now c ≠ 0) (hN : N ≤ 100000) : CallTail w S C P O B b K bt bf n N c t now ph (up ph (now c) 3) ow (((now c : Int), (t : Int)) :: L) := by
  have hne := apart_of h.nd
  have hp2 := h.inv.running hc h0
  have h5 := h.inv.lt c hc
  have htc : t ≠ now c := fun e => by rw [e] at htw; omega
  refine ⟨fun w2 hH hP => ?_, fun w2 hH hP => ?_, fun w2 v hv hH hC hB => ?_, h.inv.call hc h0 ht1 ht5 htw⟩
  · exact goes_some S P (now c) 3 2 ph w2 hH.s1 hP (by omega) h5 (by rw [hp2]; exact tab22)
  · refine goes_some S P t 2 3 _ w2 hH.s1 hP ht1 ht5 ?_
    rw [up_other _ _ htc, htw]
    exact tab13
  · exact (lay_save w2 hH hC hB hc hv h0 h5 hN).mono fun r w' ⟨h1, h2, h3⟩ => ⟨h1, hC.kept h3 (by simpa using hne.C_b), h2, h3.mono (by simp)⟩

set_option maxRecDepth 100000 in
set_option maxHeartbeats 4000000 in
theorem call_zero {S C P O B b K bt bf n N : Nat} {now ph : Nat → Nat} {ow : Nat → Bool} {L : List (Int × Int)} (c t : Nat) (r : Value) (w : World) (h : SeatAt w S C P O B b K bt bf n N now ph ow L) (hc : c < n) (ht5 : t < 5) (hr : IsRegs r) (h0 : t = 0) :
    Calls Try.prog 46 #[.pointer (some ⟨S, 0, none⟩), .int .i64 c, .int .i64 t, r] w fun e w' => e = .returned (.int .i64 (-2)) ∧ GrowBut w w' [] := by
  obtain ⟨r0, r1, r2, r3, r4, r5, r6, r7, rfl⟩ := hr
  have hO := fun w1 (hg : GrowBut w w1 []) => sOf_calls S C n c w1 (hg.cell h.head.s0 (by simp)) h.n3 hc
  have hPt := fun w1 (hg : GrowBut w w1 []) => sPart_calls S P t w1 (hg.cell h.head.s1 (by simp)) ht5
  have hG := GrowBut.alloc w (.cells #[.int .u64 r0, .int .u64 r1, .int .u64 r2, .int .u64 r3, .int .u64 r4, .int .u64 r5, .int .u64 r6, .int .u64 r7] 86) []
  have hlt5 : (t : Int) < 5 := by omega
  have hk : ∀ w1, GrowBut w w1 [] → w1.cell? ⟨C, c * 17, none⟩ = some (.int .i64 (now c)) := fun w1 hg => hg.cell (h.cpus.cn c hc) (by simp)
  generalize c * 17 = o at *
  clear h
  subst h0
  have hPt' := fun w1 hg => hPt w1 hg
  simp only [show decide (1 ≤ 0) = false from rfl, Int.natCast_zero] at hPt' ⊢
  clear hPt
  go_enter Try.func46, Try.ntmps46
  go_wp2_with (first
    | (go_at_call 91; refine (hO _ hG).mono ?_; rintro e w1 ⟨rfl, hw1⟩; have hg1 : GrowBut w w1 [] := hw1 ▸ hG; have y1 := hk w1 hg1; have hPw := hPt' w1 hg1; clear hk hw1 hPt')
    | (go_at_call 92; refine hPw.mono ?_; clear hPw; rintro e w2 ⟨rfl, hw2⟩; rw [hw2]; clear hw2 w2)
    | go_in)
  go_ret
  exact ⟨rfl, hg1⟩

set_option maxRecDepth 100000 in
set_option maxHeartbeats 4000000 in
theorem call_self {S C P O B b K bt bf n N : Nat} {now ph : Nat → Nat} {ow : Nat → Bool} {L : List (Int × Int)} (c t : Nat) (r : Value) (w : World) (h : SeatAt w S C P O B b K bt bf n N now ph ow L) (hc : c < n) (ht5 : t < 5) (hr : IsRegs r) (h1 : 1 ≤ t) (h0 : t = now c) :
    Calls Try.prog 46 #[.pointer (some ⟨S, 0, none⟩), .int .i64 c, .int .i64 t, r] w fun e w' => e = .returned (.int .i64 (-2)) ∧ GrowBut w w' [] := by
  obtain ⟨r0, r1, r2, r3, r4, r5, r6, r7, rfl⟩ := hr
  have hO := fun w1 (hg : GrowBut w w1 []) => sOf_calls S C n c w1 (hg.cell h.head.s0 (by simp)) h.n3 hc
  have hPt := fun w1 (hg : GrowBut w w1 []) => sPart_calls S P t w1 (hg.cell h.head.s1 (by simp)) ht5
  have hG := GrowBut.alloc w (.cells #[.int .u64 r0, .int .u64 r1, .int .u64 r2, .int .u64 r3, .int .u64 r4, .int .u64 r5, .int .u64 r6, .int .u64 r7] 86) []
  have hlt5 : (t : Int) < 5 := by omega
  have hk : ∀ w1, GrowBut w w1 [] → w1.cell? ⟨C, c * 17, none⟩ = some (.int .i64 (now c)) := fun w1 hg => hg.cell (h.cpus.cn c hc) (by simp)
  generalize c * 17 = o at *
  clear h
  have hPt' := fun w1 hg => hPt w1 hg
  rw [decide_eq_true h1] at hPt'
  rw [← h0] at hk
  clear h0
  clear hPt
  go_enter Try.func46, Try.ntmps46
  go_wp2_with (first
    | (go_at_call 91; refine (hO _ hG).mono ?_; rintro e w1 ⟨rfl, hw1⟩; have hg1 : GrowBut w w1 [] := hw1 ▸ hG; have y1 := hk w1 hg1; have hPw := hPt' w1 hg1; clear hk hw1 hPt')
    | (go_at_call 92; refine hPw.mono ?_; clear hPw; rintro e w2 ⟨rfl, hw2⟩; rw [hw2]; clear hw2 w2)
    | go_in)
  go_ret
  exact ⟨rfl, hg1⟩

set_option maxRecDepth 100000 in
set_option maxHeartbeats 4000000 in
theorem call_busy {S C P O B b K bt bf n N : Nat} {now ph : Nat → Nat} {ow : Nat → Bool} {L : List (Int × Int)} (c t : Nat) (r : Value) (w : World) (h : SeatAt w S C P O B b K bt bf n N now ph ow L) (hc : c < n) (h1 : 1 ≤ t) (ht5 : t < 5) (hr : IsRegs r) (hne : t ≠ now c) (hph : ph t ≠ 1) :
    Calls Try.prog 46 #[.pointer (some ⟨S, 0, none⟩), .int .i64 c, .int .i64 t, r] w fun e w' => e = .returned (.int .i64 (-4)) ∧ GrowBut w w' [] := by
  obtain ⟨r0, r1, r2, r3, r4, r5, r6, r7, rfl⟩ := hr
  have hO := fun w1 (hg : GrowBut w w1 []) => sOf_calls S C n c w1 (hg.cell h.head.s0 (by simp)) h.n3 hc
  have hPt := fun w1 (hg : GrowBut w w1 []) => sPart_calls S P t w1 (hg.cell h.head.s1 (by simp)) ht5
  have hG := GrowBut.alloc w (.cells #[.int .u64 r0, .int .u64 r1, .int .u64 r2, .int .u64 r3, .int .u64 r4, .int .u64 r5, .int .u64 r6, .int .u64 r7] 86) []
  have hlt5 : (t : Int) < 5 := by omega
  have h5 := h.inv.lt c hc
  have hk : ∀ w1, GrowBut w w1 [] → w1.cell? ⟨C, c * 17, none⟩ = some (.int .i64 (now c)) ∧ w1.cell? ⟨S, 1, none⟩ = some (.slice (some ⟨P, 0, none⟩) 5 5) ∧ w1.cell? ⟨P, t, none⟩ = some (.int .i64 (ph t)) ∧ w1.cell? ⟨S, 4, none⟩ = some (.pointer (some ⟨K, 0, none⟩)) := fun w1 hg => ⟨hg.cell (h.cpus.cn c hc) (by simp), hg.cell h.head.s1 (by simp), hg.cell (h.phases.pn t ht5) (by simp), hg.cell h.head.s4 (by simp)⟩
  rw [decide_eq_true h1] at hPt
  have hq1 : ¬ (t : Int) = (now c : Int) := by omega
  have hq1b : ((t : Int) == (now c : Int)) = false := by simpa using hq1
  have hp1 : ¬ ((ph t : Nat) : Int) = 1 := by omega
  have hp1b : (((ph t : Nat) : Int) == 1) = false := by simpa using hp1
  have hp1c : (((ph t : Nat) : Int) != 1) = true := by simpa using hp1
  generalize c * 17 = o at *
  generalize now c = q at *
  generalize ph t = f at *
  clear h
  go_enter Try.func46, Try.ntmps46
  go_upto_region 4 with (first
    | (go_at_call 91; refine (hO _ hG).mono ?_; rintro e w1 ⟨rfl, hw1⟩; have hg1 : GrowBut w w1 [] := hw1 ▸ hG; obtain ⟨y1, y2, y3, y4⟩ := hk w1 hg1; have hPw := hPt w1 hg1; clear hk hw1 hPt)
    | (go_at_call 92; refine hPw.mono ?_; clear hPw; rintro e w2 ⟨rfl, hw2⟩; rw [hw2]; clear hw2 w2)
    | go_in)
  go_quiet (fail)
  go_wp2_with go_in
  go_ret
  exact ⟨rfl, hg1.trans (GrowBut.drewN _ _ _)⟩

set_option maxRecDepth 100000 in
set_option maxHeartbeats 4000000 in
theorem call_ok0 {S C P O B b K bt bf n N : Nat} {now ph : Nat → Nat} {ow : Nat → Bool} {L : List (Int × Int)} (c t : Nat) (r : Value) (w : World) (h : SeatAt w S C P O B b K bt bf n N now ph ow L) (hc : c < n) (h1 : 1 ≤ t) (ht5 : t < 5) (hr : IsRegs r) (h0 : now c = 0) (hph : ph t = 1) :
    Calls Try.prog 46 #[.pointer (some ⟨S, 0, none⟩), .int .i64 c, .int .i64 t, r] w fun e w' => e = .returned (.int .i64 0) ∧ (∃ now' ph' ow' L', SeatAt w' S C P O B b K bt bf n (N + 1) now' ph' ow' L') ∧ GrowBut w w' (turns C P O b bt bf) := by
  obtain ⟨r0, r1, r2, r3, r4, r5, r6, r7, rfl⟩ := hr
  have hO := fun w1 (hg : GrowBut w w1 []) => sOf_calls S C n c w1 (hg.cell h.head.s0 (by simp)) h.n3 hc
  have hPt := fun w1 (hg : GrowBut w w1 []) => sPart_calls S P t w1 (hg.cell h.head.s1 (by simp)) ht5
  have hG := GrowBut.alloc w (.cells #[.int .u64 r0, .int .u64 r1, .int .u64 r2, .int .u64 r3, .int .u64 r4, .int .u64 r5, .int .u64 r6, .int .u64 r7] 86) []
  have hlt5 : (t : Int) < 5 := by omega
  have h5 := h.inv.lt c hc
  have hk : ∀ w1, GrowBut w w1 [] → w1.cell? ⟨C, c * 17, none⟩ = some (.int .i64 (now c)) ∧ w1.cell? ⟨S, 1, none⟩ = some (.slice (some ⟨P, 0, none⟩) 5 5) ∧ w1.cell? ⟨P, t, none⟩ = some (.int .i64 (ph t)) ∧ w1.cell? ⟨S, 4, none⟩ = some (.pointer (some ⟨K, 0, none⟩)) := fun w1 hg => ⟨hg.cell (h.cpus.cn c hc) (by simp), hg.cell h.head.s1 (by simp), hg.cell (h.phases.pn t ht5) (by simp), hg.cell h.head.s4 (by simp)⟩
  have hT := tail_zero h hc h1 ht5 hph h0
  have hlts := h.lts
  have hnd := h.nd
  have hne := apart_of hnd
  have hnA : ∀ x ∈ [S, C, P, O, B, b, K, bt, bf], x ≠ w.heap.size := fun x hx => by have := hlts x hx; omega
  have hw : ∀ w1, w1 = w.alloc (.cells #[.int .u64 r0, .int .u64 r1, .int .u64 r2, .int .u64 r3, .int .u64 r4, .int .u64 r5, .int .u64 r6, .int .u64 r7] 86) →
      GrowBut w w1 [] ∧ SeatAt w1 S C P O B b K bt bf n N now ph ow L ∧ BoxAt w1 w.heap.size r0 r1 r2 r3 r4 r5 r6 r7 := fun w1 e => by
    subst e
    exact ⟨hG, h.kept hG, boxAt_new w _ _ _ _ _ _ _ _ _⟩
  have hcpu := fun w2 (h2 : CpusAt w2 C n now) => cpu_cells h2 hc
  have hfz := fun w2 (h2 : CpusAt w2 C n now) => h2.fz9 hc
  have hend : ∀ w2 w3, CpusAt w2 C n now → CpuTurn w2 w3 C (c * 17) t → CpusAt w3 C n (up now c t) ∧ GrowBut w2 w3 [C] := fun w2 w3 h2 ht => ⟨h2.ends hc ht, ht.only.grow⟩
  rw [decide_eq_true h1] at hPt
  rw [h0, hph] at hk
  simp only [h0, Int.natCast_zero, Int.natCast_one] at hk hcpu
  have hT1 := hT.goes1
  simp only [h0, Int.natCast_zero] at hT1
  have hq1 : ¬ (t : Int) = 0 := by omega
  have hq1b : ((t : Int) == 0) = false := by simpa using hq1
  clear h hlts hph
  generalize hoo : c * 17 = o at hO hk hcpu hend hfz
  go_enter Try.func46, Try.ntmps46
  go_upto_region 4 with (first
    | (go_at_call 91; refine (hO _ hG).mono ?_; rintro e w1 ⟨rfl, hw1⟩; obtain ⟨hg1, hs1, hR⟩ := hw w1 hw1; obtain ⟨y1, y2, y3, y4⟩ := hk w1 hg1; have hPw := hPt w1 hg1; clear hk hw1 hPt)
    | (go_at_call 92; refine hPw.mono ?_; clear hPw; rintro e w2 ⟨rfl, hw2⟩; rw [hw2]; clear hw2 w2)
    | go_in)
  go_quiet (fail)
  have hs2 := hs1.kept (GrowBut.drewN w1 nq [])
  have hR2 := hR.kept (GrowBut.drewN w1 nq []) (by simp)
  have hg2 : GrowBut w (w1.drewN nq) (turns C P O b bt bf) := (hg1.mono (by simp)).trans (GrowBut.drewN w1 nq _)
  clear hs1 hR hg1 y1 y2 y3 y4 hw
  generalize w1.drewN nq = w2 at hs2 hR2 hg2 ⊢
  have hK2 := hs2.chain.more (Nat.le_succ N)
  -- both
  have hH2 := hs2.head
  obtain ⟨y1, _⟩ := hcpu w2 hs2.cpus
  have hn1 := hs2.n1
  have hn3 := hs2.n3
  have hP2 := hs2.phases
  go_upto_region 7 with (first
    | (go_at_call 95; refine (hT1 w2 hH2 hP2).mono ?_; rintro e w3 ⟨rfl, hP3, hg3⟩)
    | go_in)
  have hH3 := hH2.kept hg3 (by simpa using hne.S_P)
  go_upto_region 8 with (first
    | (go_at_call 95; refine (hT.goes2 w3 hH3 hP3).mono ?_; rintro e w4 ⟨rfl, hP4, hg4⟩)
    | go_in)
  have hgP : GrowBut w2 w4 [P] := hg3.trans hg4
  have hH4 := hH2.kept hgP (by simpa using hne.S_P)
  have hC4 := hs2.cpus.kept hgP (by simpa using hne.C_P)
  have hO4 := hs2.owes.kept hgP (by simpa using hne.O_P)
  have hB4 := hs2.bank.kept hgP (by simpa using hne.b_P) (by simpa using hne.B_P)
  have hK4 := hK2.kept hgP (by simpa using hne.K_P) (by simpa using hne.bt_P) (by simpa using hne.bf_P)
  have hR4 := hR2.kept hgP (by simpa using fun e => hnA P (by simp) e.symm)
  have hg5 := hg2.trans (hgP.mono (l' := turns C P O b bt bf) (by simp))
  clear hs2 hR2 hg2 hgP hg3 hg4 hP2 hP3 hH2 hH3 hK2 y1
  obtain ⟨y0, _, x, y1, y2, y3, y4, y5, y6, y7, y8⟩ := hcpu w4 hC4
  have hlay := hT.lay w4 (.agg #[.int .u64 (x 1), .int .u64 (x 2), .int .u64 (x 3), .int .u64 (x 4), .int .u64 (x 5), .int .u64 (x 6), .int .u64 (x 7), .int .u64 (x 8)]) ⟨_, _, _, _, _, _, _, _, rfl⟩ hH4 hC4 hB4
  rw [hoo] at hlay
  go_upto_region 9 with (first
    | (go_at_call 98; refine hlay.mono ?_; clear hlay; rintro e w6 ⟨rfl, hC6, hB6, hg7⟩)
    | go_in)
  have hH6 := hH4.kept hg7 (by simp [hne.S_C, hne.S_b])
  have hO6 := hO4.kept hg7 (by simp [hne.O_C, hne.O_b])
  have hP6 := hP4.kept hg7 (by simp [hne.P_C, hne.P_b])
  have hK6 := hK4.kept hg7 (by simp [hne.K_C, hne.K_b]) (by simp [hne.bt_C, hne.bt_b]) (by simp [hne.bf_C, hne.bf_b])
  have hR6 := hR4.kept hg7 (by simp [(hnA C (by simp)).symm, (hnA b (by simp)).symm])
  have hg8 := hg5.trans (hg7.mono (l' := turns C P O b bt bf) (by simp))
  clear hH4 hC4 hO4 hB4 hK4 hR4 hg5 hg7 hP4 y0 y1 y2 y3 y4 y5 y6 y7 y8
  obtain ⟨f0, f1, f2, f3, f4, f5, f6, f7, hRl⟩ := hR6
  obtain ⟨z0, zt, x, z1, z2, z3, z4, z5, z6, z7, z8⟩ := hcpu _ hC6
  obtain ⟨zf0, zf1, zf2, zf3, zf4, zf5, zf6, zf7, zf8⟩ := hfz _ hC6
  clear hfz
  have yf := hO6.of t ht5
  have yo := hO6.on t ht5
  have y2 := hH6.s2
  have hRC : ¬ C = w.heap.size := hnA C (by simp)
  have hCR : ¬ w.heap.size = C := fun e => hRC e.symm
  have hRO : ¬ O = w.heap.size := hnA O (by simp)
  have hOR : ¬ w.heap.size = O := fun e => hRO e.symm
  have hSO : ¬ S = O := hne.S_O
  have hOS : ¬ O = S := hne.O_S
  have hSC : ¬ S = C := hne.S_C
  have hCS : ¬ C = S := hne.C_S
  have hCO : ¬ C = O := hne.C_O
  have hOC : ¬ O = C := hne.O_C
  have ht := (zt.setN t).set8 1 r0 r1 r2 r3 r4 r5 r6 r7 (by omega) (by omega)
  obtain ⟨hC9, hg15⟩ := hend w6 _ hC6 ht
  have hfin : ∀ w9, CpusAt w9 C n (up now c t) → GrowBut w6 w9 [C] → (∃ now' ph' ow' L', SeatAt (w9.setCell ⟨O, t, none⟩ (.bool true)).drew S C P O B b K bt bf n (N + 1) now' ph' ow' L') ∧ GrowBut w (w9.setCell ⟨O, t, none⟩ (.bool true)).drew (turns C P O b bt bf) := fun w9 hC9 hg => by
    have hgo : GrowBut w9 (w9.setCell ⟨O, t, none⟩ (.bool true)).drew [O] := (GrowBut.setCell _ _ _).trans (GrowBut.drew _ _)
    exact ⟨⟨_, _, _, _, (hH6.kept hg (by simpa using hne.S_C)).kept hgo (by simpa using hne.S_O), hn1, hn3, hC9.kept hgo (by simpa using hne.C_O), (hP6.kept hg (by simpa using hne.P_C)).kept hgo (by simpa using hne.P_O), ((hO6.kept hg (by simpa using hne.O_C)).put t ht5 true).kept (GrowBut.drew _ []) (by simp),
      (hB6.kept hg (by simpa using hne.b_C) (by simpa using hne.B_C)).kept hgo (by simpa using hne.b_O) (by simpa using hne.B_O), ((hK6.kept hg (by simpa using hne.K_C) (by simpa using hne.bt_C) (by simpa using hne.bf_C)).kept hgo (by simpa using hne.K_O) (by simpa using hne.bt_O) (by simpa using hne.bf_O)), hT.inv, hnd⟩, (hg8.trans (hg.mono (by simp))).trans (hgo.mono (by simp))⟩
  clear hcpu hend hH6 hC6 hO6 hB6 hK6 hg8 zt ht hP6 hT hT1
  generalize w.heap.size = R at *
  go_region_held3 (fun w' => w'.cell? ⟨S, 2, none⟩ = some (.slice (some ⟨O, 0, none⟩) 5 5) ∧ w'.cell? ⟨R, 0, none⟩ = some (.int .u64 r0) ∧ w'.cell? ⟨R, 1, none⟩ = some (.int .u64 r1) ∧ w'.cell? ⟨R, 2, none⟩ = some (.int .u64 r2) ∧ w'.cell? ⟨R, 3, none⟩ = some (.int .u64 r3) ∧ w'.cell? ⟨R, 4, none⟩ = some (.int .u64 r4) ∧ w'.cell? ⟨R, 5, none⟩ = some (.int .u64 r5) ∧ w'.cell? ⟨R, 6, none⟩ = some (.int .u64 r6) ∧ w'.cell? ⟨R, 7, none⟩ = some (.int .u64 r7)) (go_keep) (fail)
  go_wp2_with go_in
  go_ret
  exact ⟨rfl, hfin _ hC9 hg15⟩

set_option maxRecDepth 100000 in
set_option maxHeartbeats 4000000 in
theorem call_no4 {S C P O B b K bt bf n N : Nat} {now ph : Nat → Nat} {ow : Nat → Bool} {L : List (Int × Int)} (c t : Nat) (r : Value) (w : World) (h : SeatAt w S C P O B b K bt bf n N now ph ow L) (hc : c < n) (h1 : 1 ≤ t) (ht5 : t < 5) (hr : IsRegs r) (hq : now c ≠ 0) (hph : ph t = 1) (hno : ∀ w2, ChainIs w2 K bt bf N L → Calls Try.prog 97 #[.pointer (some ⟨K, 0, none⟩), .int .i64 (now c), .int .i64 t] w2 fun r w' => r = .returned (.bool false) ∧ w' = w2) :
    Calls Try.prog 46 #[.pointer (some ⟨S, 0, none⟩), .int .i64 c, .int .i64 t, r] w fun e w' => e = .returned (.int .i64 (-4)) ∧ GrowBut w w' [] := by
  obtain ⟨r0, r1, r2, r3, r4, r5, r6, r7, rfl⟩ := hr
  have hO := fun w1 (hg : GrowBut w w1 []) => sOf_calls S C n c w1 (hg.cell h.head.s0 (by simp)) h.n3 hc
  have hPt := fun w1 (hg : GrowBut w w1 []) => sPart_calls S P t w1 (hg.cell h.head.s1 (by simp)) ht5
  have hG := GrowBut.alloc w (.cells #[.int .u64 r0, .int .u64 r1, .int .u64 r2, .int .u64 r3, .int .u64 r4, .int .u64 r5, .int .u64 r6, .int .u64 r7] 86) []
  have hlt5 : (t : Int) < 5 := by omega
  have h5 := h.inv.lt c hc
  have hk : ∀ w1, GrowBut w w1 [] → w1.cell? ⟨C, c * 17, none⟩ = some (.int .i64 (now c)) ∧ w1.cell? ⟨S, 1, none⟩ = some (.slice (some ⟨P, 0, none⟩) 5 5) ∧ w1.cell? ⟨P, t, none⟩ = some (.int .i64 (ph t)) ∧ w1.cell? ⟨S, 4, none⟩ = some (.pointer (some ⟨K, 0, none⟩)) := fun w1 hg => ⟨hg.cell (h.cpus.cn c hc) (by simp), hg.cell h.head.s1 (by simp), hg.cell (h.phases.pn t ht5) (by simp), hg.cell h.head.s4 (by simp)⟩
  have htc : t ≠ now c := fun e => by have := h.inv.running hc hq; rw [← e] at this; omega
  rw [decide_eq_true h1] at hPt
  rw [hph] at hk
  simp only [Int.natCast_one] at hk
  have hch : ∀ w1, GrowBut w w1 [] → ChainIs w1 K bt bf N L := fun w1 hg => h.chain.kept hg (by simp) (by simp) (by simp)
  have hq1 : ¬ (t : Int) = (now c : Int) := by omega
  have hq1b : ((t : Int) == (now c : Int)) = false := by simpa using hq1
  have hq0 : (0 : Int) < (now c : Int) := by omega
  have hq0n : 0 < now c := by omega
  have hq0b : decide ((0 : Int) < (now c : Int)) = true := decide_eq_true hq0
  generalize c * 17 = o at *
  generalize now c = q at *
  clear h hph
  go_enter Try.func46, Try.ntmps46
  go_upto_region 4 with (first
    | (go_at_call 91; refine (hO _ hG).mono ?_; rintro e w1 ⟨rfl, hw1⟩; have hg1 : GrowBut w w1 [] := hw1 ▸ hG; obtain ⟨y1, y2, y3, y4⟩ := hk w1 hg1; have hPw := hPt w1 hg1; clear hk hw1 hPt)
    | (go_at_call 92; refine hPw.mono ?_; clear hPw; rintro e w2 ⟨rfl, hw2⟩; rw [hw2]; clear hw2 w2)
    | go_in)
  have hch1 := hch _ (hg1.trans (GrowBut.drew w1 []))
  go_region_held3 (fun w' => w'.cell? ⟨C, o, none⟩ = some (.int .i64 q) ∧ w'.cell? ⟨S, 1, none⟩ = some (.slice (some ⟨P, 0, none⟩) 5 5) ∧ w'.cell? ⟨P, t, none⟩ = some (.int .i64 1) ∧ w'.cell? ⟨S, 4, none⟩ = some (.pointer (some ⟨K, 0, none⟩))) (first | go_keep | (exact ⟨y1, y2, y3, y4⟩))
    (first
      | (go_at_call 97; refine (hno _ hch1).mono ?_; rintro e w7 ⟨rfl, hw7⟩; rw [hw7]; clear hw7 w7)
      | fail)
  go_wp2_with go_in
  go_ret
  exact ⟨rfl, hg1.trans (GrowBut.drew _ _)⟩

set_option maxRecDepth 100000 in
set_option maxHeartbeats 4000000 in
theorem call_okp {S C P O B b K bt bf n N : Nat} {now ph : Nat → Nat} {ow : Nat → Bool} {L : List (Int × Int)} (c t : Nat) (r : Value) (w : World) (h : SeatAt w S C P O B b K bt bf n N now ph ow L) (hc : c < n) (h1 : 1 ≤ t) (ht5 : t < 5) (hr : IsRegs r) (hq : now c ≠ 0) (hph : ph t = 1) (hN : N ≤ 100000) (hyes : ∀ w2, ChainIs w2 K bt bf N L → Calls Try.prog 97 #[.pointer (some ⟨K, 0, none⟩), .int .i64 (now c), .int .i64 t] w2 fun r w' => r = .returned (.bool true) ∧ ChainIs w' K bt bf (N + 1) (((now c : Int), (t : Int)) :: L) ∧ GrowBut w2 w' [bt, bf]) :
    Calls Try.prog 46 #[.pointer (some ⟨S, 0, none⟩), .int .i64 c, .int .i64 t, r] w fun e w' => e = .returned (.int .i64 0) ∧ (∃ now' ph' ow' L', SeatAt w' S C P O B b K bt bf n (N + 1) now' ph' ow' L') ∧ GrowBut w w' (turns C P O b bt bf) := by
  obtain ⟨r0, r1, r2, r3, r4, r5, r6, r7, rfl⟩ := hr
  have hO := fun w1 (hg : GrowBut w w1 []) => sOf_calls S C n c w1 (hg.cell h.head.s0 (by simp)) h.n3 hc
  have hPt := fun w1 (hg : GrowBut w w1 []) => sPart_calls S P t w1 (hg.cell h.head.s1 (by simp)) ht5
  have hG := GrowBut.alloc w (.cells #[.int .u64 r0, .int .u64 r1, .int .u64 r2, .int .u64 r3, .int .u64 r4, .int .u64 r5, .int .u64 r6, .int .u64 r7] 86) []
  have hlt5 : (t : Int) < 5 := by omega
  have h5 := h.inv.lt c hc
  have hk : ∀ w1, GrowBut w w1 [] → w1.cell? ⟨C, c * 17, none⟩ = some (.int .i64 (now c)) ∧ w1.cell? ⟨S, 1, none⟩ = some (.slice (some ⟨P, 0, none⟩) 5 5) ∧ w1.cell? ⟨P, t, none⟩ = some (.int .i64 (ph t)) ∧ w1.cell? ⟨S, 4, none⟩ = some (.pointer (some ⟨K, 0, none⟩)) := fun w1 hg => ⟨hg.cell (h.cpus.cn c hc) (by simp), hg.cell h.head.s1 (by simp), hg.cell (h.phases.pn t ht5) (by simp), hg.cell h.head.s4 (by simp)⟩
  have hT := tail_part h hc h1 ht5 hph hq hN
  have htc : t ≠ now c := fun e => by have := h.inv.running hc hq; rw [← e] at this; omega
  have hlts := h.lts
  have hnd := h.nd
  have hne := apart_of hnd
  have hnA : ∀ x ∈ [S, C, P, O, B, b, K, bt, bf], x ≠ w.heap.size := fun x hx => by have := hlts x hx; omega
  have hw : ∀ w1, w1 = w.alloc (.cells #[.int .u64 r0, .int .u64 r1, .int .u64 r2, .int .u64 r3, .int .u64 r4, .int .u64 r5, .int .u64 r6, .int .u64 r7] 86) →
      GrowBut w w1 [] ∧ SeatAt w1 S C P O B b K bt bf n N now ph ow L ∧ BoxAt w1 w.heap.size r0 r1 r2 r3 r4 r5 r6 r7 := fun w1 e => by
    subst e
    exact ⟨hG, h.kept hG, boxAt_new w _ _ _ _ _ _ _ _ _⟩
  have hcpu := fun w2 (h2 : CpusAt w2 C n now) => cpu_cells h2 hc
  have hfz := fun w2 (h2 : CpusAt w2 C n now) => h2.fz9 hc
  have hend : ∀ w2 w3, CpusAt w2 C n now → CpuTurn w2 w3 C (c * 17) t → CpusAt w3 C n (up now c t) ∧ GrowBut w2 w3 [C] := fun w2 w3 h2 ht => ⟨h2.ends hc ht, ht.only.grow⟩
  rw [decide_eq_true h1] at hPt
  rw [hph] at hk
  simp only [Int.natCast_one] at hk
  have hT1 := hT.goes1
  have hT2 := hT.goes2
  have hTi := hT.inv
  have hq1 : ¬ (t : Int) = (now c : Int) := by omega
  have hq1b : ((t : Int) == (now c : Int)) = false := by simpa using hq1
  have hq0 : (0 : Int) < (now c : Int) := by omega
  have hq0n : 0 < now c := by omega
  have hq0b : decide ((0 : Int) < (now c : Int)) = true := decide_eq_true hq0
  clear h hlts hph
  generalize hoo : c * 17 = o at hO hk hcpu hend hfz
  generalize hpq : now c = q at hk hcpu hq1 hq1b hq0 hq0n hq0b hT1 hT2 hTi hyes
  go_enter Try.func46, Try.ntmps46
  go_upto_region 4 with (first
    | (go_at_call 91; refine (hO _ hG).mono ?_; rintro e w1 ⟨rfl, hw1⟩; obtain ⟨hg1, hs1, hR⟩ := hw w1 hw1; obtain ⟨y1, y2, y3, y4⟩ := hk w1 hg1; have hPw := hPt w1 hg1; clear hk hw1 hPt)
    | (go_at_call 92; refine hPw.mono ?_; clear hPw; rintro e w2 ⟨rfl, hw2⟩; rw [hw2]; clear hw2 w2)
    | go_in)
  have hch1 := (hs1.kept (GrowBut.drew w1 [])).chain
  go_region_held3 (fun w' => w'.cell? ⟨C, o, none⟩ = some (.int .i64 q) ∧ w'.cell? ⟨S, 1, none⟩ = some (.slice (some ⟨P, 0, none⟩) 5 5) ∧ w'.cell? ⟨P, t, none⟩ = some (.int .i64 1) ∧ w'.cell? ⟨S, 4, none⟩ = some (.pointer (some ⟨K, 0, none⟩))) (first | go_keep | (exact ⟨d1, d2, d3, d4⟩))
    (first
      | (go_at_call 97; refine (hyes _ hch1).mono ?_; rintro e w2 ⟨rfl, hK7, hg7⟩; have d1 := hg7.cell (a := ⟨C, o, none⟩) y1 (by simp [hne.C_bt, hne.C_bf]); have d2 := hg7.cell (a := ⟨S, 1, none⟩) y2 (by simp [hne.S_bt, hne.S_bf]); have d3 := hg7.cell (a := ⟨P, t, none⟩) y3 (by simp [hne.P_bt, hne.P_bf]); have d4 := hg7.cell (a := ⟨S, 4, none⟩) y4 (by simp [hne.S_bt, hne.S_bf]))
      | fail)
  have hg8 : GrowBut w1 w2 [bt, bf] := (GrowBut.drew _ _).trans hg7
  have hs2 : CallMid w2 S C P O B b K n N now ph ow := ⟨hs1.head.kept hg8 (by simp [hne.S_bt, hne.S_bf]), hs1.n1, hs1.n3, hs1.cpus.kept hg8 (by simp [hne.C_bt, hne.C_bf]), hs1.phases.kept hg8 (by simp [hne.P_bt, hne.P_bf]), hs1.owes.kept hg8 (by simp [hne.O_bt, hne.O_bf]), hs1.bank.kept hg8 (by simp [hne.b_bt, hne.b_bf]) (by simp [hne.B_bt, hne.B_bf])⟩
  have hR2 := hR.kept hg8 (by simp [(hnA bt (by simp)).symm, (hnA bf (by simp)).symm])
  have hg2 : GrowBut w w2 (turns C P O b bt bf) := (hg1.mono (by simp)).trans (hg8.mono (by simp))
  clear hs1 hR hg1 y1 y2 y3 y4 hw d1 d2 d3 d4 hg7 hg8 hch1 hyes
  have hK2 := hK7
  clear hK7
  -- both
  have hH2 := hs2.head
  obtain ⟨y1, _⟩ := hcpu w2 hs2.cpus
  have hn1 := hs2.n1
  have hn3 := hs2.n3
  have hP2 := hs2.phases
  go_upto_region 7 with (first
    | (go_at_call 95; refine (hT1 w2 hH2 hP2).mono ?_; rintro e w3 ⟨rfl, hP3, hg3⟩)
    | go_in)
  have hH3 := hH2.kept hg3 (by simpa using hne.S_P)
  go_upto_region 8 with (first
    | (go_at_call 95; refine (hT2 w3 hH3 hP3).mono ?_; rintro e w4 ⟨rfl, hP4, hg4⟩)
    | go_in)
  have hgP : GrowBut w2 w4 [P] := hg3.trans hg4
  have hH4 := hH2.kept hgP (by simpa using hne.S_P)
  have hC4 := hs2.cpus.kept hgP (by simpa using hne.C_P)
  have hO4 := hs2.owes.kept hgP (by simpa using hne.O_P)
  have hB4 := hs2.bank.kept hgP (by simpa using hne.b_P) (by simpa using hne.B_P)
  have hK4 := hK2.kept hgP (by simpa using hne.K_P) (by simpa using hne.bt_P) (by simpa using hne.bf_P)
  have hR4 := hR2.kept hgP (by simpa using fun e => hnA P (by simp) e.symm)
  have hg5 := hg2.trans (hgP.mono (l' := turns C P O b bt bf) (by simp))
  clear hs2 hR2 hg2 hgP hg3 hg4 hP2 hP3 hH2 hH3 hK2 y1
  obtain ⟨y0, _, x, y1, y2, y3, y4, y5, y6, y7, y8⟩ := hcpu w4 hC4
  have hlay := hT.lay w4 (.agg #[.int .u64 (x 1), .int .u64 (x 2), .int .u64 (x 3), .int .u64 (x 4), .int .u64 (x 5), .int .u64 (x 6), .int .u64 (x 7), .int .u64 (x 8)]) ⟨_, _, _, _, _, _, _, _, rfl⟩ hH4 hC4 hB4
  rw [hoo] at hlay
  go_upto_region 9 with (first
    | (go_at_call 98; refine hlay.mono ?_; clear hlay; rintro e w6 ⟨rfl, hC6, hB6, hg7⟩)
    | go_in)
  have hH6 := hH4.kept hg7 (by simp [hne.S_C, hne.S_b])
  have hO6 := hO4.kept hg7 (by simp [hne.O_C, hne.O_b])
  have hP6 := hP4.kept hg7 (by simp [hne.P_C, hne.P_b])
  have hK6 := hK4.kept hg7 (by simp [hne.K_C, hne.K_b]) (by simp [hne.bt_C, hne.bt_b]) (by simp [hne.bf_C, hne.bf_b])
  have hR6 := hR4.kept hg7 (by simp [(hnA C (by simp)).symm, (hnA b (by simp)).symm])
  have hg8 := hg5.trans (hg7.mono (l' := turns C P O b bt bf) (by simp))
  clear hH4 hC4 hO4 hB4 hK4 hR4 hg5 hg7 hP4 y0 y1 y2 y3 y4 y5 y6 y7 y8
  obtain ⟨f0, f1, f2, f3, f4, f5, f6, f7, hRl⟩ := hR6
  obtain ⟨z0, zt, x, z1, z2, z3, z4, z5, z6, z7, z8⟩ := hcpu _ hC6
  obtain ⟨zf0, zf1, zf2, zf3, zf4, zf5, zf6, zf7, zf8⟩ := hfz _ hC6
  clear hfz
  have yf := hO6.of t ht5
  have yo := hO6.on t ht5
  have y2 := hH6.s2
  have hRC : ¬ C = w.heap.size := hnA C (by simp)
  have hCR : ¬ w.heap.size = C := fun e => hRC e.symm
  have hRO : ¬ O = w.heap.size := hnA O (by simp)
  have hOR : ¬ w.heap.size = O := fun e => hRO e.symm
  have hSO : ¬ S = O := hne.S_O
  have hOS : ¬ O = S := hne.O_S
  have hSC : ¬ S = C := hne.S_C
  have hCS : ¬ C = S := hne.C_S
  have hCO : ¬ C = O := hne.C_O
  have hOC : ¬ O = C := hne.O_C
  have ht := (zt.setN t).set8 1 r0 r1 r2 r3 r4 r5 r6 r7 (by omega) (by omega)
  obtain ⟨hC9, hg15⟩ := hend w6 _ hC6 ht
  have hfin : ∀ w9, CpusAt w9 C n (up now c t) → GrowBut w6 w9 [C] → (∃ now' ph' ow' L', SeatAt (w9.setCell ⟨O, t, none⟩ (.bool true)).drew S C P O B b K bt bf n (N + 1) now' ph' ow' L') ∧ GrowBut w (w9.setCell ⟨O, t, none⟩ (.bool true)).drew (turns C P O b bt bf) := fun w9 hC9 hg => by
    have hgo : GrowBut w9 (w9.setCell ⟨O, t, none⟩ (.bool true)).drew [O] := (GrowBut.setCell _ _ _).trans (GrowBut.drew _ _)
    exact ⟨⟨_, _, _, _, (hH6.kept hg (by simpa using hne.S_C)).kept hgo (by simpa using hne.S_O), hn1, hn3, hC9.kept hgo (by simpa using hne.C_O), (hP6.kept hg (by simpa using hne.P_C)).kept hgo (by simpa using hne.P_O), ((hO6.kept hg (by simpa using hne.O_C)).put t ht5 true).kept (GrowBut.drew _ []) (by simp),
      (hB6.kept hg (by simpa using hne.b_C) (by simpa using hne.B_C)).kept hgo (by simpa using hne.b_O) (by simpa using hne.B_O), ((hK6.kept hg (by simpa using hne.K_C) (by simpa using hne.bt_C) (by simpa using hne.bf_C)).kept hgo (by simpa using hne.K_O) (by simpa using hne.bt_O) (by simpa using hne.bf_O)), hTi, hnd⟩, (hg8.trans (hg.mono (by simp))).trans (hgo.mono (by simp))⟩
  clear hcpu hend hH6 hC6 hO6 hB6 hK6 hg8 zt ht hP6 hT hT1 hT2 hTi
  generalize w.heap.size = R at *
  go_region_held3 (fun w' => w'.cell? ⟨S, 2, none⟩ = some (.slice (some ⟨O, 0, none⟩) 5 5) ∧ w'.cell? ⟨R, 0, none⟩ = some (.int .u64 r0) ∧ w'.cell? ⟨R, 1, none⟩ = some (.int .u64 r1) ∧ w'.cell? ⟨R, 2, none⟩ = some (.int .u64 r2) ∧ w'.cell? ⟨R, 3, none⟩ = some (.int .u64 r3) ∧ w'.cell? ⟨R, 4, none⟩ = some (.int .u64 r4) ∧ w'.cell? ⟨R, 5, none⟩ = some (.int .u64 r5) ∧ w'.cell? ⟨R, 6, none⟩ = some (.int .u64 r6) ∧ w'.cell? ⟨R, 7, none⟩ = some (.int .u64 r7)) (go_keep) (fail)
  go_wp2_with go_in
  go_ret
  exact ⟨rfl, hfin _ hC9 hg15⟩

end Go.Proofs.Ythhfokbfdeghpaa
