/-
  Package seat: Answer.
-/
import Derived.Test.YthhfokbfdeghpaaSeatL
namespace Go.Proofs.Ythhfokbfdeghpaa
open Go Go.RowKit Go.Maps Go.Am
set_option linter.unusedVariables false

theorem cpu_cells {w2 : World} {C n c : Nat} {now : Nat → Nat} (h2 : CpusAt w2 C n now) (hc : c < n) : w2.cell? ⟨C, c * 17, none⟩ = some (.int .i64 (now c)) ∧ CpuTurn w2 w2 C (c * 17) (now c) ∧ ∃ x : Nat → Int, (w2.cell? ⟨C, c * 17 + 1, none⟩ = some (.int .u64 (x 1)) ∧ w2.cell? ⟨C, c * 17 + 2, none⟩ = some (.int .u64 (x 2)) ∧ w2.cell? ⟨C, c * 17 + 3, none⟩ = some (.int .u64 (x 3)) ∧ w2.cell? ⟨C, c * 17 + 4, none⟩ = some (.int .u64 (x 4)) ∧
      w2.cell? ⟨C, c * 17 + 5, none⟩ = some (.int .u64 (x 5)) ∧ w2.cell? ⟨C, c * 17 + 6, none⟩ = some (.int .u64 (x 6)) ∧ w2.cell? ⟨C, c * 17 + 7, none⟩ = some (.int .u64 (x 7)) ∧ w2.cell? ⟨C, c * 17 + 8, none⟩ = some (.int .u64 (x 8))) := by
  obtain ⟨x, hx⟩ := h2.regs hc
  exact ⟨h2.cn c hc, h2.begin hc, x, hx 1 (by omega) (by omega), hx 2 (by omega) (by omega), hx 3 (by omega) (by omega), hx 4 (by omega) (by omega), hx 5 (by omega) (by omega), hx 6 (by omega) (by omega), hx 7 (by omega) (by omega), hx 8 (by omega) (by omega)⟩

theorem OwesAt.put {w : World} {O : Nat} {ow : Nat → Bool} (h : OwesAt w O ow) (k : Nat) (hk : k < 5) (v : Bool) : OwesAt (w.setCell ⟨O, k, none⟩ (.bool v)) O (up ow k v) := by
  refine ⟨fun j hj => ?_, fun j hj => ?_, Nat.lt_of_lt_of_le h.lt (GrowBut.setCell w _ _).size⟩
  · by_cases e : j = k
    · subst e; rw [up_same]; exact World.cell?_setCell_same _ _ _ (h.on j hj)
    · rw [up_other _ _ e, World.cell?_setCell_other (h := fun e2 : (⟨O, k, none⟩ : Addr) = ⟨O, j, none⟩ => e (by cases e2; rfl))]; exact h.on j hj
  · rw [World.frozen?_setCell]; exact h.of j hj

theorem tab24 : Am.tabLook ((2 : Nat) : Int) 4 = some ((1 : Nat) : Int) := by kernel_rfl
theorem tab35 : Am.tabLook ((3 : Nat) : Int) 5 = some ((2 : Nat) : Int) := by kernel_rfl
theorem tab22 : Am.tabLook ((2 : Nat) : Int) 2 = some ((3 : Nat) : Int) := by kernel_rfl
theorem tab13 : Am.tabLook ((1 : Nat) : Int) 3 = some ((2 : Nat) : Int) := by kernel_rfl

theorem tab_run {v : Nat} (h : 1 ≤ v ∧ v ≤ 5) : Am.tabLook (v : Int) 1 = none ∨ (v ≠ 2 ∧ Am.tabLook (v : Int) 1 = some ((2 : Nat) : Int)) := by
  have : v = 1 ∨ v = 2 ∨ v = 3 ∨ v = 4 ∨ v = 5 := by omega
  rcases this with rfl | rfl | rfl | rfl | rfl
  · exact .inr ⟨by decide, by kernel_rfl⟩
  · exact .inl (by kernel_rfl)
  · exact .inl (by kernel_rfl)
  · exact .inr ⟨by decide, by kernel_rfl⟩
  · exact .inr ⟨by decide, by kernel_rfl⟩

/-- Whom an answer goes to, and what that comes to. -/
theorem answer_sets {w : World} {S C P O B b K bt bf n N c : Nat} {now ph : Nat → Nat} {ow : Nat → Bool} {L : List (Int × Int)} (h : SeatAt w S C P O B b K bt bf n N now ph ow L) (hc : c < n) (hq : now c ≠ 0) : ∃ (to : Nat) (bl : Bool) (L' : List (Int × Int)) (ph' : Nat → Nat),
    (∀ w2, ChainIs w2 K bt bf N L → Calls Try.prog 100 #[.pointer (some ⟨K, 0, none⟩), .int .i64 (now c)] w2 fun r w' => r = .returned (.tuple #[.int .i64 to, .bool bl]) ∧ ChainIs w' K bt bf N L' ∧ GrowBut w2 w' [bt, bf]) ∧
    (∀ w2, HeadAt w2 S C P O B K n → PhasesAt w2 P (up ph (now c) 1) → Calls Try.prog 95 #[.pointer (some ⟨S, 0, none⟩), .int .i64 to, .int .i64 5] w2 fun e w' => e = .returned (.bool true) ∧ PhasesAt w' P ph' ∧ GrowBut w2 w' [P]) ∧
    Inv n (up now c to) ph' (up ow (now c) false) L' := by
  have h5 := h.inv.lt c hc
  obtain ⟨m0, hm0, hch⟩ := h.chain
  by_cases hL : (now c : Int) ∈ L.map Prod.snd
  · obtain ⟨⟨a', q'⟩, hm, hqe⟩ := List.mem_map.1 hL
    simp only at hqe
    subst hqe
    obtain ⟨pa, qa, epq, _⟩ := h.inv.rng _ hm
    obtain rfl : a' = (pa : Int) := by simp only [Prod.mk.injEq] at epq; exact epq.1
    obtain ⟨ha1, ha5, hane, ha3, hI⟩ := h.inv.answer hc hq hm hch.nf hch.ns
    refine ⟨pa, true, cutTo L (now c), up (up ph (now c) 1) pa 2, fun w2 hw2 => ?_, fun w2 hH hP => ?_, hI⟩
    · obtain ⟨m, hmN, hc2⟩ := hw2
      exact (answer_some K bt bf m L pa (now c) w2 hc2 hm).mono fun r w' ⟨h1, h2, h3⟩ => ⟨h1, ⟨m, hmN, h2⟩, h3⟩
    · refine goes_some S P pa 2 5 _ w2 hH.s1 hP ha1 ha5 ?_
      rw [up_other _ _ hane, ha3]
      exact tab35
  · refine ⟨0, false, L, up ph (now c) 1, fun w2 hw2 => ?_, fun w2 hH hP => ?_, h.inv.answer0 hc hq hL⟩
    · obtain ⟨m, hmN, hc2⟩ := hw2
      exact (answer_none K bt bf m L (now c) w2 hc2 (wf_small (by omega)) hL).mono fun r w' ⟨h1, h2⟩ => ⟨h1, by rw [h2]; exact ⟨m, hmN, hc2⟩, by rw [h2]; exact .refl _ _⟩
    · exact (goes0_calls S 5 w2).mono fun r w' ⟨h1, h2⟩ => ⟨h1, by rw [h2]; exact hP, by rw [h2]; exact .refl _ _⟩

set_option maxRecDepth 100000 in
set_option maxHeartbeats 4000000 in
theorem answer_no {S C P O B b K bt bf n N : Nat} {now ph : Nat → Nat} {ow : Nat → Bool} {L : List (Int × Int)} (c : Nat) (r : Value) (w : World) (h : SeatAt w S C P O B b K bt bf n N now ph ow L) (hc : c < n) (hr : IsRegs r) (hno : now c = 0 ∨ ow (now c) = false) :
    Calls Try.prog 47 #[.pointer (some ⟨S, 0, none⟩), .int .i64 c, r] w fun e w' => e = .returned (.int .i64 (-6)) ∧ GrowBut w w' [] := by
  obtain ⟨r0, r1, r2, r3, r4, r5, r6, r7, rfl⟩ := hr
  have hO := fun w1 (hg : GrowBut w w1 []) => sOf_calls S C n c w1 (hg.cell h.head.s0 (by simp)) h.n3 hc
  have hG := GrowBut.alloc w (.cells #[.int .u64 r0, .int .u64 r1, .int .u64 r2, .int .u64 r3, .int .u64 r4, .int .u64 r5, .int .u64 r6, .int .u64 r7] 86) []
  have h5 := h.inv.lt c hc
  have hlt5 : (now c : Int) < 5 := by omega
  have hk : ∀ w1, GrowBut w w1 [] → w1.cell? ⟨C, c * 17, none⟩ = some (.int .i64 (now c)) ∧ w1.cell? ⟨S, 2, none⟩ = some (.slice (some ⟨O, 0, none⟩) 5 5) ∧ w1.cell? ⟨O, now c, none⟩ = some (.bool (ow (now c))) := fun w1 hg => ⟨hg.cell (h.cpus.cn c hc) (by simp), hg.cell h.head.s2 (by simp), hg.cell (h.owes.on _ h5) (by simp)⟩
  generalize c * 17 = o at *
  clear h
  rcases Nat.eq_zero_or_pos (now c) with h0 | h0
  · rw [h0] at hk
    simp only [Int.natCast_zero] at hk
    clear hno h0 hlt5 h5
    go_enter Try.func47, Try.ntmps47
    go_wp2_with (first
      | (go_at_call 91; refine (hO _ hG).mono ?_; rintro e w1 ⟨rfl, hw1⟩; have hg1 : GrowBut w w1 [] := hw1 ▸ hG; obtain ⟨y1, y2, y3⟩ := hk w1 hg1; clear hk hw1)
      | go_in)
    go_quiet (fail)
    go_wp2_with go_in
    go_ret
    exact ⟨rfl, hg1.trans (GrowBut.drewN _ _ _)⟩
  · have how : ow (now c) = false := hno.resolve_left (by omega)
    have hn0 : ¬ (now c : Int) = 0 := by omega
    have hb0 : ((now c : Int) == 0) = false := by simpa using hn0
    rw [how] at hk
    clear hno h0 how
    generalize now c = q at *
    go_enter Try.func47, Try.ntmps47
    go_wp2_with (first
      | (go_at_call 91; refine (hO _ hG).mono ?_; rintro e w1 ⟨rfl, hw1⟩; have hg1 : GrowBut w w1 [] := hw1 ▸ hG; obtain ⟨y1, y2, y3⟩ := hk w1 hg1; clear hk hw1)
      | go_in)
    go_quiet (fail)
    go_wp2_with go_in
    go_ret
    exact ⟨rfl, hg1.trans (GrowBut.drewN _ _ _)⟩

set_option maxRecDepth 100000 in
set_option maxHeartbeats 4000000 in
theorem answer_ok {S C P O B b K bt bf n N : Nat} {now ph : Nat → Nat} {ow : Nat → Bool} {L : List (Int × Int)} (c : Nat) (r : Value) (w : World) (h : SeatAt w S C P O B b K bt bf n N now ph ow L) (hc : c < n) (hr : IsRegs r) (hq : now c ≠ 0) (how : ow (now c) = true) (hN : N ≤ 100000) :
    Calls Try.prog 47 #[.pointer (some ⟨S, 0, none⟩), .int .i64 c, r] w fun e w' => e = .returned (.int .i64 0) ∧ (∃ now' ph' ow' L', SeatAt w' S C P O B b K bt bf n (N + 1) now' ph' ow' L') ∧ GrowBut w w' (turns C P O b bt bf) := by
  obtain ⟨r0, r1, r2, r3, r4, r5, r6, r7, rfl⟩ := hr
  obtain ⟨to, bl, L', ph', hans, hback, hinv⟩ := answer_sets h hc hq
  have hph := h.inv.running hc hq
  have h5 := h.inv.lt c hc
  have hlts := h.lts
  have hnd := h.nd
  have hne := apart_of hnd
  have hO := fun w1 (hg : GrowBut w w1 []) => sOf_calls S C n c w1 (hg.cell h.head.s0 (by simp)) h.n3 hc
  have hG := GrowBut.alloc w (.cells #[.int .u64 r0, .int .u64 r1, .int .u64 r2, .int .u64 r3, .int .u64 r4, .int .u64 r5, .int .u64 r6, .int .u64 r7] 86) []
  have hnA : ∀ x ∈ [S, C, P, O, B, b, K, bt, bf], x ≠ w.heap.size := fun x hx => by have := hlts x hx; omega
  have hw : ∀ w1, w1 = w.alloc (.cells #[.int .u64 r0, .int .u64 r1, .int .u64 r2, .int .u64 r3, .int .u64 r4, .int .u64 r5, .int .u64 r6, .int .u64 r7] 86) →
      GrowBut w w1 [] ∧ SeatAt w1 S C P O B b K bt bf n N now ph ow L ∧ BoxAt w1 w.heap.size r0 r1 r2 r3 r4 r5 r6 r7 := fun w1 e => by
    subst e
    exact ⟨hG, h.kept hG, boxAt_new w _ _ _ _ _ _ _ _ _⟩
  have hgoes : ∀ w2, HeadAt w2 S C P O B K n → PhasesAt w2 P ph → Calls Try.prog 95 #[.pointer (some ⟨S, 0, none⟩), .int .i64 (now c), .int .i64 4] w2 fun e w' => e = .returned (.bool true) ∧ PhasesAt w' P (up ph (now c) 1) ∧ GrowBut w2 w' [P] := fun w2 hH hP =>
    goes_some S P (now c) 1 4 ph w2 hH.s1 hP (by omega) h5 (by rw [hph]; exact tab24)
  have hlay : ∀ w2 v, IsRegs v → HeadAt w2 S C P O B K n → CpusAt w2 C n now → BankIs w2 B b N → Calls Try.prog 98 #[.pointer (some ⟨S, 0, none⟩), .pointer (some ⟨C, c * 17, none⟩), v] w2 fun e w' => e = .returned (.tuple #[]) ∧ BankIs w' B b (N + 1) ∧ GrowBut w2 w' [b] := fun w2 v hv hH hC hB =>
    lay_save w2 hH hC hB hc hv hq h5 hN
  have hcpu := fun w2 (h2 : CpusAt w2 C n now) => cpu_cells h2 hc
  have hend : ∀ w2 w3, CpusAt w2 C n now → CpuTurn w2 w3 C (c * 17) to → CpusAt w3 C n (up now c to) ∧ GrowBut w2 w3 [C] := fun w2 w3 h2 ht => ⟨h2.ends hc ht, ht.only.grow⟩
  have hfz := fun w2 (h2 : CpusAt w2 C n now) => h2.fz9 hc
  have hof : ∀ w2, OwesAt w2 O ow → w2.frozen? ⟨O, now c, none⟩ = false := fun w2 h2 => h2.of _ h5
  have hpad : ∀ w2, SeatAt w2 S C P O B b K bt bf n N now ph ow L → w2.cell? ⟨S, 2, none⟩ = some (.slice (some ⟨O, 0, none⟩) 5 5) ∧ w2.cell? ⟨O, now c, none⟩ = some (.bool true) := fun w2 h2 => ⟨h2.head.s2, by rw [← how]; exact h2.owes.on _ h5⟩
  have hput : ∀ w2, OwesAt w2 O ow → OwesAt (w2.setCell ⟨O, now c, none⟩ (.bool false)) O (up ow (now c) false) := fun w2 h2 => h2.put _ h5 _
  have hlt5 : (now c : Int) < 5 := by omega
  have hn0 : ¬ (now c : Int) = 0 := by omega
  have hb0 : ((now c : Int) == 0) = false := by simpa using hn0
  have hSO : ¬ S = O := hne.S_O
  have hOS : ¬ O = S := hne.O_S
  have hCO : ¬ C = O := hne.C_O
  have hOC : ¬ O = C := hne.O_C
  clear hq hph h hlts how
  generalize hpq : now c = q at hgoes hcpu hpad hlt5 hn0 hb0 hput hans hof
  generalize hoo : c * 17 = o at *
  go_enter Try.func47, Try.ntmps47
  go_wp2_with (first
    | (go_at_call 91; refine (hO _ hG).mono ?_; rintro e w1 ⟨rfl, hw1⟩; obtain ⟨hg1, hs1, hR⟩ := hw w1 hw1; clear hw1 hw hG hO; obtain ⟨y2, y3⟩ := hpad w1 hs1; obtain ⟨y1, _⟩ := hcpu w1 hs1.cpus)
    | go_in)
  go_quiet (fail)
  have hs2 := hs1.kept (GrowBut.drewN w1 nq [])
  have hR2 := hR.kept (GrowBut.drewN w1 nq []) (by simp)
  have hg2 := hg1.trans (GrowBut.drewN w1 nq [])
  clear hs1 hR hg1 y1 y2 y3
  generalize w1.drewN nq = w2 at hs2 hR2 hg2 ⊢
  obtain ⟨y2, y3⟩ := hpad w2 hs2
  obtain ⟨y1, _⟩ := hcpu w2 hs2.cpus
  have yf := hof _ hs2.owes
  clear hof
  go_upto_region 6 with go_in
  go_region_held3 (fun w' => w'.cell? ⟨S, 2, none⟩ = some (.slice (some ⟨O, 0, none⟩) 5 5) ∧ w'.cell? ⟨C, o, none⟩ = some (.int .i64 q)) (go_keep) (fail)
  have hgo : GrowBut w2 (w2.setCell ⟨O, q, none⟩ (.bool false)).drew [O] := (GrowBut.setCell _ _ _).trans (GrowBut.drew _ _)
  have hO3 := (hput w2 hs2.owes).kept (GrowBut.drew _ []) (by simp)
  generalize (w2.setCell ⟨O, q, none⟩ (.bool false)).drew = w3 at hgo hO3 ⊢
  have hH3 := hs2.head.kept hgo (by simpa using hne.S_O)
  have hC3 := hs2.cpus.kept hgo (by simpa using hne.C_O)
  have hP3 := hs2.phases.kept hgo (by simpa using hne.P_O)
  have hB3 := hs2.bank.kept hgo (by simpa using hne.b_O) (by simpa using hne.B_O)
  have hK3 := hs2.chain.kept hgo (by simpa using hne.K_O) (by simpa using hne.bt_O) (by simpa using hne.bf_O)
  have hR3 := hR2.kept hgo (by simpa using fun e => hnA O (by simp) e.symm)
  have hg3 : GrowBut w w3 (turns C P O b bt bf) := (hg2.mono (by simp)).trans (hgo.mono (by simp))
  have hn1 := hs2.n1
  have hn3 := hs2.n3
  clear hs2 hR2 hg2 hgo y1 y2 y3 yf hput hpad
  obtain ⟨y1, _⟩ := hcpu w3 hC3
  -- the part that answers
  go_upto_region 8 with (first
    | (go_at_call 95; refine (hgoes w3 hH3 hP3).mono ?_; clear hgoes; rintro e w4 ⟨rfl, hP4, hg4⟩)
    | go_in)
  have hH4 := hH3.kept hg4 (by simpa using hne.S_P)
  have hC4 := hC3.kept hg4 (by simpa using hne.C_P)
  have hO4 := hO3.kept hg4 (by simpa using hne.O_P)
  have hB4 := hB3.kept hg4 (by simpa using hne.b_P) (by simpa using hne.B_P)
  have hK4 := hK3.kept hg4 (by simpa using hne.K_P) (by simpa using hne.bt_P) (by simpa using hne.bf_P)
  have hR4 := hR3.kept hg4 (by simpa using fun e => hnA P (by simp) e.symm)
  have hg5 := hg3.trans (hg4.mono (l' := turns C P O b bt bf) (by simp))
  clear hH3 hC3 hO3 hB3 hK3 hR3 hg3 hP3 hg4 y1
  have hD := done_calls w4
  go_upto_region 9 with (first
    | (go_at_call 99; refine hD.mono ?_; clear hD; rintro e w5 ⟨dv, rfl, hdv, hg6⟩; have hl6 := hlay w5 dv hdv (hH4.kept hg6 (by simp)) (hC4.kept hg6 (by simp)) (hB4.kept hg6 (by simp) (by simp)); clear hlay)
    | (go_at_call 98; refine hl6.mono ?_; clear hl6; rintro e w6 ⟨rfl, hB6, hg7⟩)
    | go_in)
  have hg8 : GrowBut w4 w6 [b] := (hg6.mono (by simp)).trans hg7
  have hH6 := hH4.kept hg8 (by simpa using hne.S_b)
  have hC6 := hC4.kept hg8 (by simpa using hne.C_b)
  have hO6 := hO4.kept hg8 (by simpa using hne.O_b)
  have hP6 := hP4.kept hg8 (by simpa using hne.P_b)
  have hK6 := hK4.kept hg8 (by simpa using hne.K_b) (by simpa using hne.bt_b) (by simpa using hne.bf_b)
  have hR6 := hR4.kept hg8 (by simpa using fun e => hnA b (by simp) e.symm)
  have hg9 := hg5.trans (hg8.mono (l' := turns C P O b bt bf) (by simp))
  clear hH4 hC4 hO4 hB4 hP4 hK4 hR4 hg5 hg6 hg7 hg8
  obtain ⟨y1, _⟩ := hcpu w6 hC6
  have y4 := hH6.s4
  have hK7 := hK6.kept (GrowBut.drew w6 []) (by simp) (by simp) (by simp)
  go_region_held3 (fun w' => w'.cell? ⟨S, 4, none⟩ = some (.pointer (some ⟨K, 0, none⟩)) ∧ w'.cell? ⟨C, o, none⟩ = some (.int .i64 q)) (first | go_keep | (exact ⟨d4, d1⟩))
    (first
      | (go_at_call 100; refine (hans _ hK7).mono ?_; rintro e w7 ⟨rfl, hK8, hg10⟩; have d4 := hg10.cell (a := ⟨S, 4, none⟩) y4 (by simp [hne.S_bt, hne.S_bf]); have d1 := hg10.cell (a := ⟨C, o, none⟩) y1 (by simp [hne.C_bt, hne.C_bf]))
      | fail)
  clear hans d4 d1 y1 y4 hK7
  have hg11 : GrowBut w6 w7 [bt, bf] := (GrowBut.drew _ _).trans hg10
  have hH7 := hH6.kept hg11 (by simp [hne.S_bt, hne.S_bf])
  have hC7 := hC6.kept hg11 (by simp [hne.C_bt, hne.C_bf])
  have hO7 := hO6.kept hg11 (by simp [hne.O_bt, hne.O_bf])
  have hP7 := hP6.kept hg11 (by simp [hne.P_bt, hne.P_bf])
  have hB7 := hB6.kept hg11 (by simp [hne.b_bt, hne.b_bf]) (by simp [hne.B_bt, hne.B_bf])
  have hR7 := hR6.kept hg11 (by simp [(hnA bt (by simp)).symm, (hnA bf (by simp)).symm])
  have hg12 := hg9.trans (hg11.mono (l' := turns C P O b bt bf) (by simp))
  rw [hpq] at hback
  clear hH6 hC6 hO6 hP6 hB6 hR6 hg9 hg10 hg11 hK6
  go_upto_region 11 with (first
    | (go_at_call 95; refine (hback w7 hH7 hP7).mono ?_; clear hback; rintro e w8 ⟨rfl, hP8, hg13⟩)
    | go_in)
  have hH8 := hH7.kept hg13 (by simpa using hne.S_P)
  have hC8 := hC7.kept hg13 (by simpa using hne.C_P)
  have hO8 := hO7.kept hg13 (by simpa using hne.O_P)
  have hB8 := hB7.kept hg13 (by simpa using hne.b_P) (by simpa using hne.B_P)
  have hK9 := hK8.kept hg13 (by simpa using hne.K_P) (by simpa using hne.bt_P) (by simpa using hne.bf_P)
  have hR8 := hR7.kept hg13 (by simpa using fun e => hnA P (by simp) e.symm)
  have hg14 := hg12.trans (hg13.mono (l' := turns C P O b bt bf) (by simp))
  clear hH7 hC7 hO7 hP7 hB7 hR7 hg12 hg13 hK8
  obtain ⟨f0, f1, f2, f3, f4, f5, f6, f7, hRl⟩ := hR8
  obtain ⟨z0, zt, x, z1, z2, z3, z4, z5, z6, z7, z8⟩ := hcpu _ hC8
  obtain ⟨zf0, zf1, zf2, zf3, zf4, zf5, zf6, zf7, zf8⟩ := hfz _ hC8
  clear hfz
  have hRC : ¬ C = w.heap.size := hnA C (by simp)
  have hCR : ¬ w.heap.size = C := fun e => hRC e.symm
  have ht := (zt.setN to).set8 1 r0 r1 r2 r3 r4 r5 r6 r7 (by omega) (by omega)
  obtain ⟨hC9, hg15⟩ := hend w8 _ hC8 ht
  have hfin : ∀ w9, CpusAt w9 C n (up now c to) → GrowBut w8 w9 [C] → (∃ now' ph' ow' L', SeatAt w9 S C P O B b K bt bf n (N + 1) now' ph' ow' L') ∧ GrowBut w w9 (turns C P O b bt bf) := fun w9 hC9 hg => ⟨⟨_, _, _, _, hH8.kept hg (by simpa using hne.S_C), hn1, hn3, hC9, hP8.kept hg (by simpa using hne.P_C), hO8.kept hg (by simpa using hne.O_C),
    hB8.kept hg (by simpa using hne.b_C) (by simpa using hne.B_C), (hK9.kept hg (by simpa using hne.K_C) (by simpa using hne.bt_C) (by simpa using hne.bf_C)).more (by omega), by rw [← hpq]; exact hinv, hnd⟩, hg14.trans (hg.mono (by simp))⟩
  clear hcpu hend hH8 hC8 hO8 hB8 hK9 hg14 zt ht hP8
  generalize w.heap.size = R at *
  go_region_held3 (fun w' => w'.cell? ⟨R, 0, none⟩ = some (.int .u64 r0) ∧ w'.cell? ⟨R, 1, none⟩ = some (.int .u64 r1) ∧ w'.cell? ⟨R, 2, none⟩ = some (.int .u64 r2) ∧ w'.cell? ⟨R, 3, none⟩ = some (.int .u64 r3) ∧ w'.cell? ⟨R, 4, none⟩ = some (.int .u64 r4) ∧ w'.cell? ⟨R, 5, none⟩ = some (.int .u64 r5) ∧ w'.cell? ⟨R, 6, none⟩ = some (.int .u64 r6) ∧ w'.cell? ⟨R, 7, none⟩ = some (.int .u64 r7)) (go_keep) (fail)
  go_wp2_with go_in
  go_ret
  exact ⟨rfl, hfin _ (hC9.kept (GrowBut.drew _ []) (by simp)) (hg15.trans (GrowBut.drew _ _))⟩

end Go.Proofs.Ythhfokbfdeghpaa
