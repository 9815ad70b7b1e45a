/-
  Package seat: Run.
-/
import Derived.Test.YthhfokbfdeghpaaSeatA
namespace Go.Proofs.Ythhfokbfdeghpaa
open Go Go.RowKit Go.Maps Go.Am
set_option linter.unusedVariables false

theorem ends_part {n : Nat} {now ph : Nat → Nat} {ow : Nat → Bool} {L : List (Int × Int)} (h : Inv n now ph ow L) {a : Int} {k : Nat} {z : Int} (he : Ends L a k z) : ∀ p : Nat, a = (p : Int) → 1 ≤ p → p < 5 → ∃ q : Nat, z = (q : Int) ∧ 1 ≤ q ∧ q < 5 := by
  induction he with
  | stop a ha => intro p e h1 h5; exact ⟨p, e, h1, h5⟩
  | step a b k z hm hr ih =>
    intro p e h1 h5
    obtain ⟨p', q', e', _, _, h3, h4, _⟩ := h.rng _ hm
    exact ih q' (by simp only [Prod.mk.injEq] at e'; exact e'.2) h3 h4

theorem ends_stop {L : List (Int × Int)} {a : Int} {k : Nat} {z : Int} (he : Ends L a k z) : z ∉ L.map Prod.fst := by
  induction he with
  | stop a ha => exact ha
  | step a b k z hm hr ih => exact ih

theorem cpu_cells9 {w2 : World} {C n c : Nat} {now : Nat → Nat} (h2 : CpusAt w2 C n now) (hc : c < n) : ∃ x : Nat → Int, (w2.cell? ⟨C, c * 17 + 9, none⟩ = some (.int .u64 (x 1)) ∧ w2.cell? ⟨C, c * 17 + 10, none⟩ = some (.int .u64 (x 2)) ∧ w2.cell? ⟨C, c * 17 + 11, none⟩ = some (.int .u64 (x 3)) ∧ w2.cell? ⟨C, c * 17 + 12, none⟩ = some (.int .u64 (x 4)) ∧
      w2.cell? ⟨C, c * 17 + 13, none⟩ = some (.int .u64 (x 5)) ∧ w2.cell? ⟨C, c * 17 + 14, none⟩ = some (.int .u64 (x 6)) ∧ w2.cell? ⟨C, c * 17 + 15, none⟩ = some (.int .u64 (x 7)) ∧ w2.cell? ⟨C, c * 17 + 16, none⟩ = some (.int .u64 (x 8))) := by
  obtain ⟨x, hx⟩ := h2.regs hc
  exact ⟨fun j => x (j + 8), hx 9 (by omega) (by omega), hx 10 (by omega) (by omega), hx 11 (by omega) (by omega), hx 12 (by omega) (by omega), hx 13 (by omega) (by omega), hx 14 (by omega) (by omega), hx 15 (by omega) (by omega), hx 16 (by omega) (by omega)⟩

set_option maxRecDepth 100000 in
set_option maxHeartbeats 4000000 in
theorem run_busy {S C P O B b K bt bf n N : Nat} {now ph : Nat → Nat} {ow : Nat → Bool} {L : List (Int × Int)} (c p : Nat) (w : World) (h : SeatAt w S C P O B b K bt bf n N now ph ow L) (hc : c < n) (hq : now c ≠ 0) :
    Calls Try.prog 45 #[.pointer (some ⟨S, 0, none⟩), .int .i64 c, .int .i64 p] w fun e w' => e = .returned (.int .i64 (-6)) ∧ w' = w := by
  have hO := sOf_calls S C n c w h.head.s0 h.n3 hc
  have y1 := h.cpus.cn c hc
  have hn0 : ¬ (now c : Int) = 0 := by omega
  generalize c * 17 = o at *
  generalize now c = q at *
  clear h
  go_enter Try.func45, Try.ntmps45
  go_wp2_with (first
    | (go_at_call 91; refine hO.mono ?_; rintro e w1 ⟨rfl, hw1⟩; rw [hw1]; clear hw1 w1)
    | go_in)
  go_ret
  exact ⟨rfl, rfl⟩

set_option maxRecDepth 100000 in
set_option maxHeartbeats 4000000 in
theorem run_arg {S C P O B b K bt bf n N : Nat} {now ph : Nat → Nat} {ow : Nat → Bool} {L : List (Int × Int)} (c : Nat) (w : World) (h : SeatAt w S C P O B b K bt bf n N now ph ow L) (hc : c < n) (hq : now c = 0) :
    Calls Try.prog 45 #[.pointer (some ⟨S, 0, none⟩), .int .i64 c, .int .i64 0] w fun e w' => e = .returned (.int .i64 (-2)) ∧ w' = w := by
  have hO := sOf_calls S C n c w h.head.s0 h.n3 hc
  have hPt := sPart_calls S P 0 w h.head.s1 (by omega)
  have y1 := h.cpus.cn c hc
  rw [hq] at y1
  simp only [Int.natCast_zero] at y1 hPt
  generalize c * 17 = o at *
  clear h hq
  go_enter Try.func45, Try.ntmps45
  go_wp2_with (first
    | (go_at_call 91; refine hO.mono ?_; rintro e w1 ⟨rfl, hw1⟩; rw [hw1]; clear hw1 w1)
    | (go_at_call 92; refine hPt.mono ?_; clear hPt; rintro e w2 ⟨rfl, hw2⟩; rw [hw2]; clear hw2 w2)
    | go_in)
  go_ret
  exact ⟨rfl, rfl⟩

set_option maxRecDepth 100000 in
set_option maxHeartbeats 4000000 in
theorem run_called {S C P O B b K bt bf n N : Nat} {now ph : Nat → Nat} {ow : Nat → Bool} {L : List (Int × Int)} (c p : Nat) (w : World) (h : SeatAt w S C P O B b K bt bf n N now ph ow L) (hc : c < n) (hp : 1 ≤ p) (hp5 : p < 5) (hq : now c = 0) (hL : (p : Int) ∈ L.map Prod.snd) :
    Calls Try.prog 45 #[.pointer (some ⟨S, 0, none⟩), .int .i64 c, .int .i64 p] w fun e w' => e = .returned (.int .i64 (-6)) ∧ w' = w := by
  have hO := sOf_calls S C n c w h.head.s0 h.n3 hc
  have hPt := sPart_calls S P p w h.head.s1 hp5
  rw [decide_eq_true hp] at hPt
  have y1 := h.cpus.cn c hc
  have y4 := h.head.s4
  rw [hq] at y1
  simp only [Int.natCast_zero] at y1
  obtain ⟨m, hm, hch⟩ := h.chain
  obtain ⟨k, z, he⟩ := hch.ends (p : Int)
  obtain ⟨q, rfl, hq1, hq5⟩ := ends_part h.inv he p rfl hp hp5
  have hLast := last_calls K bt bf m L p k q w hch he (wf_small (by omega))
  obtain ⟨⟨a', p'⟩, hmem, hpe⟩ := List.mem_map.1 hL
  simp only at hpe
  subst hpe
  have hCaller := caller_some K bt bf m L p a' w hch (mem_back.2 hmem) (wf_small (by omega))
  generalize c * 17 = o at *
  clear h hch he hmem hL hq
  go_enter Try.func45, Try.ntmps45
  go_wp2_with (first
    | (go_at_call 91; refine hO.mono ?_; rintro e w1 ⟨rfl, hw1⟩; rw [hw1]; clear hw1 w1)
    | (go_at_call 92; refine hPt.mono ?_; clear hPt; rintro e w1 ⟨rfl, hw1⟩; rw [hw1]; clear hw1 w1)
    | (go_at_call 93; refine hLast.mono ?_; clear hLast; rintro e w1 ⟨rfl, hw1⟩; rw [hw1]; clear hw1 w1)
    | (go_at_call 94; refine hCaller.mono ?_; clear hCaller; rintro e w1 ⟨rfl, hw1⟩; rw [hw1]; clear hw1 w1)
    | go_in)
  go_ret
  exact ⟨rfl, rfl⟩

set_option maxRecDepth 100000 in
set_option maxHeartbeats 4000000 in
theorem run_free {S C P O B b K bt bf n N : Nat} {now ph : Nat → Nat} {ow : Nat → Bool} {L : List (Int × Int)} (c p : Nat) (w : World) (h : SeatAt w S C P O B b K bt bf n N now ph ow L) (hc : c < n) (hp : 1 ≤ p) (hp5 : p < 5) (hq : now c = 0) (hL : (p : Int) ∉ L.map Prod.snd) :
    Calls Try.prog 45 #[.pointer (some ⟨S, 0, none⟩), .int .i64 c, .int .i64 p] w fun e w' => (∃ er, e = .returned (.int .i64 er)) ∧ (∃ now' ph' ow' L', SeatAt w' S C P O B b K bt bf n N now' ph' ow' L') ∧ GrowBut w w' (turns C P O b bt bf) := by
  have hO := sOf_calls S C n c w h.head.s0 h.n3 hc
  have hPt := sPart_calls S P p w h.head.s1 hp5
  rw [decide_eq_true hp] at hPt
  have y1 := h.cpus.cn c hc
  have y4 := h.head.s4
  rw [hq] at y1
  simp only [Int.natCast_zero] at y1
  obtain ⟨m, hm, hch⟩ := h.chain
  obtain ⟨k, z, he⟩ := hch.ends (p : Int)
  obtain ⟨q, rfl, hq1, hq5⟩ := ends_part h.inv he p rfl hp hp5
  have hLast := last_calls K bt bf m L p k q w hch he (wf_small (by omega))
  have hCaller := caller_none K bt bf m L p w hch (by rw [back_fst]; exact hL) (wf_small (by omega))
  rcases tab_run (h.inv.phr q hq1 hq5) with htab | ⟨hph2, htab⟩
  · have hgoes := goes_none S P q 1 ph w h.head.s1 h.phases hq1 hq5 htab
    have hkeep : ∀ w', GrowBut w w' [] → (∃ now' ph' ow' L', SeatAt w' S C P O B b K bt bf n N now' ph' ow' L') ∧ GrowBut w w' (turns C P O b bt bf) := fun w' hg => ⟨⟨_, _, _, _, h.kept hg⟩, hg.mono (by simp)⟩
    generalize c * 17 = o at *
    clear h hch he hL hq htab
    go_enter Try.func45, Try.ntmps45
    go_wp2_with (first
      | (go_at_call 91; refine hO.mono ?_; rintro e w1 ⟨rfl, hw1⟩; rw [hw1]; clear hw1 w1)
      | (go_at_call 92; refine hPt.mono ?_; clear hPt; rintro e w1 ⟨rfl, hw1⟩; rw [hw1]; clear hw1 w1)
      | (go_at_call 93; refine hLast.mono ?_; clear hLast; rintro e w1 ⟨rfl, hw1⟩; rw [hw1]; clear hw1 w1)
      | (go_at_call 94; refine hCaller.mono ?_; clear hCaller; rintro e w1 ⟨rfl, hw1⟩; rw [hw1]; clear hw1 w1)
      | (go_at_call 95; refine hgoes.mono ?_; clear hgoes; rintro e w1 ⟨rfl, hg1⟩)
      | go_in)
    go_ret
    exact ⟨⟨_, rfl⟩, hkeep _ hg1⟩
  · have hgoes := goes_some S P q 2 1 ph w h.head.s1 h.phases hq1 hq5 htab
    have hne := apart_of h.nd
    have hinv := h.inv.runs hc hq hq1 hq5 hph2 (ends_stop he)
    have hmid : ∀ w2, PhasesAt w2 P (up ph q 2) → GrowBut w w2 [P] → HeadAt w2 S C P O B K n ∧ CpusAt w2 C n now ∧ OwesAt w2 O ow ∧ BankIs w2 B b N ∧ ChainIs w2 K bt bf N L := fun w2 hP hg =>
      ⟨h.head.kept hg (by simpa using hne.S_P), h.cpus.kept hg (by simpa using hne.C_P), h.owes.kept hg (by simpa using hne.O_P), h.bank.kept hg (by simpa using hne.b_P) (by simpa using hne.B_P), h.chain.kept hg (by simpa using hne.K_P) (by simpa using hne.bt_P) (by simpa using hne.bf_P)⟩
    have hcpu := fun w2 (h2 : CpusAt w2 C n now) => cpu_cells h2 hc
    have hcpu9 := fun w2 (h2 : CpusAt w2 C n now) => cpu_cells9 h2 hc
    have hcpu2 := fun w2 (h2 : CpusAt w2 C n (up now c q)) => cpu_cells h2 hc
    rw [up_same] at hcpu2
    have hfz := fun w2 (h2 : CpusAt w2 C n (up now c q)) => h2.fz9 hc
    have hfz16 := fun w2 (h2 : CpusAt w2 C n now) => h2.fz16 hc
    have hfz9 := fun w2 (h2 : CpusAt w2 C n now) => h2.fz9 hc
    have hend : ∀ w2 w3, CpusAt w2 C n now → CpuTurn w2 w3 C (c * 17) q → CpusAt w3 C n (up now c q) ∧ GrowBut w2 w3 [C] := fun w2 w3 h2 ht => ⟨h2.ends hc ht, ht.only.grow⟩
    have hend2 : ∀ w2 w3, CpusAt w2 C n (up now c q) → CpuTurn w2 w3 C (c * 17) q → CpusAt w3 C n (up now c q) ∧ GrowBut w2 w3 [C] := fun w2 w3 h2 ht => ⟨by
      have := h2.ends hc ht
      have e : up (up now c q) c q = up now c q := by
        funext i
        by_cases e : i = c
        · subst e; rw [up_same, up_same]
        · rw [up_other _ _ e]
      rwa [e] at this, ht.only.grow⟩
    have hn1 := h.n1
    have hn3 := h.n3
    have hnd := h.nd
    generalize hoo : c * 17 = o at *
    clear h hch he hL hq htab hm
    go_enter Try.func45, Try.ntmps45
    go_upto_region 12 with (first
      | (go_at_call 91; refine hO.mono ?_; rintro e w1 ⟨rfl, hw1⟩; rw [hw1]; clear hw1 w1)
      | (go_at_call 92; refine hPt.mono ?_; clear hPt; rintro e w1 ⟨rfl, hw1⟩; rw [hw1]; clear hw1 w1)
      | (go_at_call 93; refine hLast.mono ?_; clear hLast; rintro e w1 ⟨rfl, hw1⟩; rw [hw1]; clear hw1 w1)
      | (go_at_call 94; refine hCaller.mono ?_; clear hCaller; rintro e w1 ⟨rfl, hw1⟩; rw [hw1]; clear hw1 w1)
      | (go_at_call 95; refine hgoes.mono ?_; clear hgoes; rintro e w2 ⟨rfl, hP2, hg2⟩)
      | go_in)
    obtain ⟨hH2, hC2, hO2, hB2, hK2⟩ := hmid w2 hP2 hg2
    obtain ⟨y0, yt, x, y1, y2, y3, y4, y5, y6, y7, y8⟩ := hcpu w2 hC2
    obtain ⟨x', y9, y10, y11, y12, y13, y14, y15, y16⟩ := hcpu9 w2 hC2
    obtain ⟨yf9, yf10, yf11, yf12, yf13, yf14, yf15, yf16⟩ := hfz16 w2 hC2
    obtain ⟨yf0, _⟩ := hfz9 w2 hC2
    clear hfz16 hfz9
    have ht := (yt.set8 9 (x 1) (x 2) (x 3) (x 4) (x 5) (x 6) (x 7) (x 8) (by omega) (by omega)).setN q
    obtain ⟨hC3, hg3⟩ := hend w2 _ hC2 ht
    clear hmid hcpu hcpu9 hend yt ht hC2
    go_upto_region 14 with go_in
    generalize (((((((((w2.setCell ⟨C, o + 9, none⟩ (.int .u64 (x 1))).setCell ⟨C, o + 9 + 1, none⟩ (.int .u64 (x 2))).setCell ⟨C, o + 9 + 2, none⟩ (.int .u64 (x 3))).setCell ⟨C, o + 9 + 3, none⟩ (.int .u64 (x 4))).setCell ⟨C, o + 9 + 4, none⟩ (.int .u64 (x 5))).setCell ⟨C, o + 9 + 5, none⟩ (.int .u64 (x 6))).setCell ⟨C, o + 9 + 6, none⟩ (.int .u64 (x 7))).setCell ⟨C, o + 9 + 7, none⟩ (.int .u64 (x 8))).setCell ⟨C, o, none⟩ (.int .i64 q)) = w3 at hC3 hg3 ⊢
    clear y0 y1 y2 y3 y4 y5 y6 y7 y8 y9 y10 y11 y12 y13 y14 y15 y16 yf0 yf9 yf10 yf11 yf12 yf13 yf14 yf15 yf16
    have hH3 := hH2.kept hg3 (by simpa using hne.S_C)
    have hP3 := hP2.kept hg3 (by simpa using hne.P_C)
    have hO3 := hO2.kept hg3 (by simpa using hne.O_C)
    have hB3 := hB2.kept hg3 (by simpa using hne.b_C) (by simpa using hne.B_C)
    have hK3 := hK2.kept hg3 (by simpa using hne.K_C) (by simpa using hne.bt_C) (by simpa using hne.bf_C)
    have hg4 : GrowBut w w3 (turns C P O b bt bf) := (hg2.mono (by simp)).trans (hg3.mono (by simp))
    clear hH2 hP2 hO2 hB2 hK2 hg2 hg3
    obtain ⟨D, mb, hmb, hbk⟩ := hB3
    have hLoad := load_calls B b mb q D w3 hbk (wf_small (by omega))
    have s3 := hH3.s3
    go_upto_region 15 with (first
      | (go_at_call 96; refine hLoad.mono ?_; clear hLoad; rintro e w4 ⟨v, rfl, hv, _, hg5⟩; obtain ⟨v0, v1, v2, v3, v4, v5, v6, v7, rfl⟩ := hv; have hg6 : GrowBut w3 w4 [] := .of_none hg5; have hC4 := hC3.kept hg6 (by simp); obtain ⟨z0, zt, x4, z1, z2, z3, z4, z5, z6, z7, z8⟩ := hcpu2 w4 hC4; obtain ⟨zf0, zf1, zf2, zf3, zf4, zf5, zf6, zf7, zf8⟩ := hfz w4 hC4; clear hfz)
      | go_in)
    have ht := zt.set8 1 v0 v1 v2 v3 v4 v5 v6 v7 (by omega) (by omega)
    obtain ⟨hC5, hg7⟩ := hend2 w4 _ hC4 ht
    have hfin : ∀ w9, CpusAt w9 C n (up now c q) → GrowBut w4 w9 [C] → (∃ now' ph' ow' L', SeatAt w9 S C P O B b K bt bf n N now' ph' ow' L') ∧ GrowBut w w9 (turns C P O b bt bf) := fun w9 hC9 hg => ⟨⟨_, _, _, _, (hH3.kept hg6 (by simp)).kept hg (by simpa using hne.S_C), hn1, hn3, hC9, (hP3.kept hg6 (by simp)).kept hg (by simpa using hne.P_C), (hO3.kept hg6 (by simp)).kept hg (by simpa using hne.O_C),
      ⟨D, mb, hmb, (hbk.keptBut hg6 (by simp) (by simp)).keptBut hg (by simpa using hne.b_C) (by simpa using hne.B_C)⟩, (hK3.kept hg6 (by simp) (by simp) (by simp)).kept hg (by simpa using hne.K_C) (by simpa using hne.bt_C) (by simpa using hne.bf_C), hinv, hnd⟩, (hg4.trans (hg6.mono (by simp))).trans (hg.mono (by simp))⟩
    clear hcpu2 hend2 hH3 hP3 hO3 hbk hK3 hC3 hC4 zt ht hg4 hg5 hg6
    go_wp2_with go_in
    go_ret
    exact ⟨⟨_, rfl⟩, hfin _ hC5 hg7⟩

end Go.Proofs.Ythhfokbfdeghpaa
