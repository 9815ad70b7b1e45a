/-
  Package seat: goes, lay; word.Done.
-/
import Derived.Test.YthhfokbfdeghpaaSeatC
import Derived.Test.YthhfokbfdeghpaaExplore
import Derived.Test.YthhfokbfdeghpaaPhase2
namespace Go.Proofs.Ythhfokbfdeghpaa
open Go Go.RowKit Go.Maps Go.Am
set_option linter.unusedVariables false

/-! ### Stores to one processor -/
/-- Only a processor's cells have turned. -/
structure OnlyCpu (w w' : World) (C o : Nat) : Prop where
  cell : ∀ a : Addr, ¬ (a.block = C ∧ o ≤ a.off ∧ a.off < o + 17) → w'.cell? a = w.cell? a
  fz : ∀ a : Addr, w'.frozen? a = w.frozen? a
  grow : GrowBut w w' [C]

theorem OnlyCpu.refl (w : World) (C o : Nat) : OnlyCpu w w C o := ⟨fun _ _ => rfl, fun _ => rfl, .refl _ _⟩

theorem OnlyCpu.set {w w' : World} {C o : Nat} (h : OnlyCpu w w' C o) (k : Nat) (v : Value) (h1 : o ≤ k) (h2 : k < o + 17) : OnlyCpu w (w'.setCell ⟨C, k, none⟩ v) C o := by
  refine ⟨fun a ha => ?_, fun a => ?_, h.grow.trans (GrowBut.setCell _ _ _)⟩
  · rw [World.cell?_setCell_other (h := fun e => ha (by rw [← e]; exact ⟨rfl, h1, h2⟩)), h.cell a ha]
  · rw [← h.fz a, World.frozen?_setCell]

theorem CpusAt.turn {w w' : World} {C n c q : Nat} {now : Nat → Nat} (h : CpusAt w C n now) (hc : c < n) (ho : OnlyCpu w w' C (c * 17)) (h0 : w'.cell? ⟨C, c * 17, none⟩ = some (.int .i64 q)) (hr : ∀ j, 1 ≤ j → j < 17 → ∃ x, w'.cell? ⟨C, c * 17 + j, none⟩ = some (.int .u64 x)) : CpusAt w' C n (up now c q) := by
  refine ⟨fun i hi => ?_, fun i hi j h1 h2 => ?_, fun k hk => ?_, Nat.lt_of_lt_of_le h.lt ho.grow.size⟩
  · by_cases e : i = c
    · subst e; rw [up_same]; exact h0
    · rw [up_other _ _ e, ho.cell _ (by intro hh; have h3 := hh.2; simp only at h3; omega)]; exact h.cn i hi
  · by_cases e : i = c
    · subst e; exact hr j h1 h2
    · rw [ho.cell _ (by intro hh; have h3 := hh.2; simp only at h3; omega)]; exact h.cr i hi j h1 h2
  · rw [ho.fz]; exact h.cf k hk

/-- A processor's cells turned: who runs there now is q. -/
structure CpuTurn (w w' : World) (C o q : Nat) : Prop where
  only : OnlyCpu w w' C o
  now : w'.cell? ⟨C, o, none⟩ = some (.int .i64 q)
  regs : ∀ j, 1 ≤ j → j < 17 → ∃ x, w'.cell? ⟨C, o + j, none⟩ = some (.int .u64 x)

theorem CpusAt.begin {w : World} {C n c : Nat} {now : Nat → Nat} (h : CpusAt w C n now) (hc : c < n) : CpuTurn w w C (c * 17) (now c) := ⟨.refl _ _ _, h.cn c hc, h.cr c hc⟩

theorem CpuTurn.setR {w w' : World} {C o q : Nat} (h : CpuTurn w w' C o q) (k : Nat) (x : Int) (h1 : o < k) (h2 : k < o + 17) : CpuTurn w (w'.setCell ⟨C, k, none⟩ (.int .u64 x)) C o q := by
  refine ⟨h.only.set k _ (by omega) h2, ?_, fun j hj hj2 => ?_⟩
  · rw [World.cell?_setCell_other (h := fun e : (⟨C, k, none⟩ : Addr) = ⟨C, o, none⟩ => by cases e; omega)]; exact h.now
  · by_cases e : k = o + j
    · subst e
      obtain ⟨y, hy⟩ := h.regs j hj hj2
      exact ⟨x, World.cell?_setCell_same _ _ _ hy⟩
    · rw [World.cell?_setCell_other (h := fun e2 : (⟨C, k, none⟩ : Addr) = ⟨C, o + j, none⟩ => by cases e2; exact e rfl)]; exact h.regs j hj hj2

theorem CpuTurn.setN {w w' : World} {C o q : Nat} (h : CpuTurn w w' C o q) (p : Nat) : CpuTurn w (w'.setCell ⟨C, o, none⟩ (.int .i64 p)) C o p := by
  refine ⟨h.only.set o _ (by omega) (by omega), World.cell?_setCell_same _ _ _ h.now, fun j hj hj2 => ?_⟩
  rw [World.cell?_setCell_other (h := fun e : (⟨C, o, none⟩ : Addr) = ⟨C, o + j, none⟩ => by have := congrArg Addr.off e; simp only at this; omega)]; exact h.regs j hj hj2

theorem CpuTurn.set8 {w w' : World} {C o q : Nat} (h : CpuTurn w w' C o q) (k : Nat) (r0 r1 r2 r3 r4 r5 r6 r7 : Int) (h1 : 1 ≤ k) (h2 : k ≤ 9) :
    CpuTurn w ((((((((w'.setCell ⟨C, o + k, none⟩ (.int .u64 r0)).setCell ⟨C, o + k + 1, none⟩ (.int .u64 r1)).setCell ⟨C, o + k + 2, none⟩ (.int .u64 r2)).setCell ⟨C, o + k + 3, none⟩ (.int .u64 r3)).setCell ⟨C, o + k + 4, none⟩ (.int .u64 r4)).setCell ⟨C, o + k + 5, none⟩ (.int .u64 r5)).setCell ⟨C, o + k + 6, none⟩ (.int .u64 r6)).setCell ⟨C, o + k + 7, none⟩ (.int .u64 r7)) C o q :=
  (((((((h.setR _ r0 (by omega) (by omega)).setR _ r1 (by omega) (by omega)).setR _ r2 (by omega) (by omega)).setR _ r3 (by omega) (by omega)).setR _ r4 (by omega) (by omega)).setR _ r5 (by omega) (by omega)).setR _ r6 (by omega) (by omega)).setR _ r7 (by omega) (by omega)

theorem CpusAt.ends {w w' : World} {C n c q : Nat} {now : Nat → Nat} (h : CpusAt w C n now) (hc : c < n) (ht : CpuTurn w w' C (c * 17) q) : CpusAt w' C n (up now c q) := h.turn hc ht.only ht.now ht.regs

theorem up_self {α : Type} (f : Nat → α) (k : Nat) : up f k (f k) = f := by
  funext i
  by_cases e : i = k
  · subst e; rw [up_same]
  · rw [up_other _ _ e]

/-! ### goes -/
set_option maxRecDepth 100000 in
set_option maxHeartbeats 2000000 in
theorem goes0_calls (S : Nat) (ev : Int) (w : World) :
    Calls Try.prog 95 #[.pointer (some ⟨S, 0, none⟩), .int .i64 0, .int .i64 ev] w fun e w' => e = .returned (.bool true) ∧ w' = w := by
  go_enter Try.func95, Try.ntmps95
  go_wp2_with go_in
  go_ret
  exact ⟨rfl, rfl⟩

set_option maxRecDepth 100000 in
set_option maxHeartbeats 2000000 in
theorem goes_some (S P p v : Nat) (ev : Int) (ph : Nat → Nat) (w : World) (h1 : w.cell? ⟨S, 1, none⟩ = some (.slice (some ⟨P, 0, none⟩) 5 5)) (hP : PhasesAt w P ph) (hp : 1 ≤ p) (hp5 : p < 5) (hv : Am.tabLook (ph p) ev = some (v : Int)) :
    Calls Try.prog 95 #[.pointer (some ⟨S, 0, none⟩), .int .i64 p, .int .i64 ev] w fun e w' => e = .returned (.bool true) ∧ PhasesAt w' P (up ph p v) ∧ GrowBut w w' [P] := by
  have hN := next_calls (ph p) ev w
  rw [hv] at hN
  have hpp := hP.pn p hp5
  have hk : ∀ w1, GrowBut w w1 [] → w1.cell? ⟨S, 1, none⟩ = some (.slice (some ⟨P, 0, none⟩) 5 5) ∧ w1.cell? ⟨P, p, none⟩ = some (.int .i64 (ph p)) ∧ w1.frozen? ⟨P, p, none⟩ = false := fun w1 hg => ⟨hg.cell h1 (by simp), hg.cell hpp (by simp), hg.frozen hP.lt (hP.pf p hp5) (by simp)⟩
  have hne : ¬ (p : Int) = 0 := by omega
  have hlt5 : (p : Int) < 5 := by omega
  go_enter Try.func95, Try.ntmps95
  go_wp2_with (first
    | (go_at_call 117; refine hN.mono ?_; rintro e w1 ⟨rfl, hs1, hb1, ho1, ht1, hu1⟩; have hg1 : GrowBut w w1 [] := ⟨ho1, ht1, hu1, hs1, fun k hk _ => hb1 k hk⟩; obtain ⟨hs, hc, hf⟩ := hk w1 hg1; clear hb1)
    | go_in)
  go_ret
  have hP1 := hP.kept hg1 (by simp)
  refine ⟨rfl, ⟨fun k hk => ?_, fun k hk => ?_, ?_⟩, (hg1.mono (by simp)).trans (GrowBut.setCell _ _ _)⟩
  · by_cases e : k = p
    · subst e; rw [up_same]; go_simp
    · rw [up_other _ _ e, ← hP1.pn k hk, World.cell?_setCell_other (h := fun e2 : (⟨P, p, none⟩ : Addr) = ⟨P, k, none⟩ => e (by cases e2; rfl))]
  · rw [← hP1.pf k hk, World.frozen?_setCell]
  · simpa using hP1.lt

set_option maxRecDepth 100000 in
set_option maxHeartbeats 2000000 in
theorem goes_none (S P p : Nat) (ev : Int) (ph : Nat → Nat) (w : World) (h1 : w.cell? ⟨S, 1, none⟩ = some (.slice (some ⟨P, 0, none⟩) 5 5)) (hP : PhasesAt w P ph) (hp : 1 ≤ p) (hp5 : p < 5) (hv : Am.tabLook (ph p) ev = none) :
    Calls Try.prog 95 #[.pointer (some ⟨S, 0, none⟩), .int .i64 p, .int .i64 ev] w fun e w' => e = .returned (.bool false) ∧ GrowBut w w' [] := by
  have hN := next_calls (ph p) ev w
  rw [hv] at hN
  have hpp := hP.pn p hp5
  have hne : ¬ (p : Int) = 0 := by omega
  have hlt5 : (p : Int) < 5 := by omega
  go_enter Try.func95, Try.ntmps95
  go_wp2_with (first
    | (go_at_call 117; refine hN.mono ?_; rintro e w1 ⟨rfl, hs1, hb1, ho1, ht1, hu1⟩; have hg1 : GrowBut w w1 [] := ⟨ho1, ht1, hu1, hs1, fun k hk _ => hb1 k hk⟩; clear hb1)
    | go_in)
  go_ret
  exact ⟨rfl, hg1⟩

theorem wf_small {k : Nat} (h : k < 1000) : (Lit.int .i64 (k : Int)).wf = true := by
  simp only [Lit.wf, Bool.and_eq_true, decide_eq_true_eq]
  have hm : IntKind.i64.min = -9223372036854775808 := by decide
  have hM : IntKind.i64.max = 9223372036854775807 := by decide
  rw [hm, hM]
  omega

/-! ### Done -/
def isRegsA : R (Done × AState) → Bool
  | .ok (.val (.agg [.lit (.int .u64 _), .lit (.int .u64 _), .lit (.int .u64 _), .lit (.int .u64 _), .lit (.int .u64 _), .lit (.int .u64 _), .lit (.int .u64 _), .lit (.int .u64 _)]), _) => true
  | _ => false

theorem isRegsA_ok {r : R (Done × AState)} (h : isRegsA r = true) : ∃ s x0 x1 x2 x3 x4 x5 x6 x7, r = .ok (.val (.agg [.lit (.int .u64 x0), .lit (.int .u64 x1), .lit (.int .u64 x2), .lit (.int .u64 x3), .lit (.int .u64 x4), .lit (.int .u64 x5), .lit (.int .u64 x6), .lit (.int .u64 x7)]), s) := by
  unfold isRegsA at h
  split at h
  · exact ⟨_, _, _, _, _, _, _, _, _, rfl⟩
  · cases h

theorem done_calls (w : World) : Calls Try.prog 99 #[.slice none 0 0] w fun e w' => ∃ v, e = .returned v ∧ IsRegs v ∧ GrowBut w w' [] := by
  have hr : isRegsA (Go.Am.run Try.prog noPrims Go.Am.noFacts (Go.Am.drawRun Try.prog) 400 (.call 99 [.lit (.slice none 0 0)]) st0) = true := by kernel_rfl
  obtain ⟨s, x0, x1, x2, x3, x4, x5, x6, x7, hs⟩ := isRegsA_ok hr
  refine (calls_of_run (σ := fun _ => (.i64, 0)) (w := w) (us := #[.slice none 0 0]) (by kernel_rfl) noFacts_ok noPrims_ok (by kernel_rfl) ⟨rfl, rfl, rfl⟩ (by exact ⟨_, _, rfl, ⟨rfl, rfl⟩, rfl⟩) (args := [.lit (.slice none 0 0)]) hs).mono fun e w' ⟨u, ρ', h1, h2, h3⟩ => ?_
  obtain ⟨ws, rfl, u0, r0, e0, ⟨rfl, _⟩, u1, r1, rfl, ⟨rfl, _⟩, u2, r2, rfl, ⟨rfl, _⟩, u3, r3, rfl, ⟨rfl, _⟩, u4, r4, rfl, ⟨rfl, _⟩, u5, r5, rfl, ⟨rfl, _⟩, u6, r6, rfl, ⟨rfl, _⟩, u7, r7, rfl, ⟨rfl, _⟩, rfl⟩ := h2
  obtain rfl : ws = #[.int .u64 x0, .int .u64 x1, .int .u64 x2, .int .u64 x3, .int .u64 x4, .int .u64 x5, .int .u64 x6, .int .u64 x7] := by apply Array.toList_inj.1; rw [e0]
  exact ⟨_, h1, ⟨_, _, _, _, _, _, _, _, rfl⟩, .of_below h3⟩

/-! ### lay -/
set_option maxRecDepth 100000 in
set_option maxHeartbeats 4000000 in
theorem lay_zero {S C n c : Nat} {now : Nat → Nat} {v : Value} (w : World) (hC : CpusAt w C n now) (hc : c < n) (hv : IsRegs v) (h0 : now c = 0) :
    Calls Try.prog 98 #[.pointer (some ⟨S, 0, none⟩), .pointer (some ⟨C, c * 17, none⟩), v] w fun e w' => e = .returned (.tuple #[]) ∧ CpusAt w' C n now ∧ GrowBut w w' [C] := by
  obtain ⟨r0, r1, r2, r3, r4, r5, r6, r7, rfl⟩ := hv
  obtain ⟨x, hx⟩ := hC.regs hc
  have x9 := hx 9 (by omega) (by omega)
  have x10 := hx 10 (by omega) (by omega)
  have x11 := hx 11 (by omega) (by omega)
  have x12 := hx 12 (by omega) (by omega)
  have x13 := hx 13 (by omega) (by omega)
  have x14 := hx 14 (by omega) (by omega)
  have x15 := hx 15 (by omega) (by omega)
  have x16 := hx 16 (by omega) (by omega)
  have hn0 := hC.cn c hc
  obtain ⟨f9, f10, f11, f12, f13, f14, f15, f16⟩ := hC.fz16 hc
  have hlt := hC.lt
  have hend : ∀ w', CpuTurn w w' C (c * 17) (now c) → CpusAt w' C n now ∧ GrowBut w w' [C] := fun w' ht => ⟨by have := hC.ends hc ht; rwa [up_self] at this, ht.only.grow⟩
  have hbeg := hC.begin hc
  rw [h0] at hn0
  generalize c * 17 = o at *
  clear hx hC
  go_enter Try.func98, Try.ntmps98
  go_wp2_with go_in
  go_end0
  obtain ⟨h1, h2⟩ := hend _ (hbeg.set8 9 r0 r1 r2 r3 r4 r5 r6 r7 (by omega) (by omega))
  exact ⟨rfl, h1.kept (GrowBut.alloc _ _ []) (by simp), h2.trans (GrowBut.alloc _ _ _)⟩

set_option maxRecDepth 100000 in
set_option maxHeartbeats 4000000 in
theorem lay_save {S C P O B b K n c N : Nat} {now : Nat → Nat} {v : Value} (w : World) (hH : HeadAt w S C P O B K n) (hC : CpusAt w C n now) (hB : BankIs w B b N) (hc : c < n) (hv : IsRegs v) (h0 : now c ≠ 0) (h5 : now c < 5) (hN : N ≤ 100000) :
    Calls Try.prog 98 #[.pointer (some ⟨S, 0, none⟩), .pointer (some ⟨C, c * 17, none⟩), v] w fun e w' => e = .returned (.tuple #[]) ∧ BankIs w' B b (N + 1) ∧ GrowBut w w' [b] := by
  obtain ⟨D, m, hm, hb⟩ := hB
  have hS := fun w1 (hg : GrowBut w w1 []) => save_calls B b m (now c) v D w1 (hb.keptBut hg (by simp) (by simp)) (wf_small (by omega)) hv (by unfold maxLen; omega)
  obtain ⟨r0, r1, r2, r3, r4, r5, r6, r7, rfl⟩ := hv
  have hn0 := hC.cn c hc
  have hlt := hC.lt
  have s3 := hH.s3
  have hSl : S < w.heap.size := by
    by_cases h2 : S < w.heap.size
    · exact h2
    · exfalso
      have h3 : w.heap[S]? = none := Array.getElem?_eq_none (by omega)
      simp [World.cell?, h3] at s3
  have hne : ¬ ((now c : Nat) : Int) = 0 := by omega
  generalize c * 17 = o at *
  clear hC hH
  go_enter Try.func98, Try.ntmps98
  go_wp2_with go_in
  obtain ⟨w1, hw1⟩ : ∃ w1, w1 = w.alloc (.cells #[.int .u64 r0, .int .u64 r1, .int .u64 r2, .int .u64 r3, .int .u64 r4, .int .u64 r5, .int .u64 r6, .int .u64 r7] 86) := ⟨_, rfl⟩
  have hg1 : GrowBut w w1 [] := hw1 ▸ GrowBut.alloc w _ []
  have c0 : w1.cell? ⟨w.heap.size, 0, none⟩ = some (.int .u64 r0) := by rw [hw1]; go_simp
  have c1 : w1.cell? ⟨w.heap.size, 1, none⟩ = some (.int .u64 r1) := by rw [hw1]; go_simp
  have c2 : w1.cell? ⟨w.heap.size, 2, none⟩ = some (.int .u64 r2) := by rw [hw1]; go_simp
  have c3 : w1.cell? ⟨w.heap.size, 3, none⟩ = some (.int .u64 r3) := by rw [hw1]; go_simp
  have c4 : w1.cell? ⟨w.heap.size, 4, none⟩ = some (.int .u64 r4) := by rw [hw1]; go_simp
  have c5 : w1.cell? ⟨w.heap.size, 5, none⟩ = some (.int .u64 r5) := by rw [hw1]; go_simp
  have c6 : w1.cell? ⟨w.heap.size, 6, none⟩ = some (.int .u64 r6) := by rw [hw1]; go_simp
  have c7 : w1.cell? ⟨w.heap.size, 7, none⟩ = some (.int .u64 r7) := by rw [hw1]; go_simp
  have d0 := hg1.cell hn0 (by simp)
  have d3 := hg1.cell s3 (by simp)
  rw [← hw1]
  clear hw1 hn0 s3
  go_still_tail 9, (by kernel_rfl)
  change wpList _ _ _ _ _ w1.drew
  go_wp2_with (first
    | (go_at_call 118; refine (hS _ (hg1.trans (GrowBut.drew _ _))).mono ?_; rintro e w2 ⟨rfl, hb1, hg2⟩)
    | go_in)
  go_end0
  exact ⟨rfl, ⟨_, _, by omega, hb1⟩, (hg1.mono (by simp)).trans ((GrowBut.drew _ _).trans (GrowBut.of_some hg2))⟩

end Go.Proofs.Ythhfokbfdeghpaa
