/-
  BellOthers: the walk.
-/
import Derived.Test.YtlcmcdgbidiicaaBellD
import Derived.Test.YtlcmcdgbidiicaaBellB
import Derived.Test.YtlcmcdgbidiicaaRecs
import Derived.Deep.Cut
import Derived.BigQuiet
namespace Go.Proofs.Ytlcmcdgbidiicaa
open Go Go.RowKit Go.Maps Go.Am
set_option linter.unusedVariables false

theorem wf_small {k : Nat} (h : k < 1000) : (Lit.int .i64 (k : Int)).wf = true := by
  simp only [Lit.wf, Bool.and_eq_true, decide_eq_true_eq]
  have hm : IntKind.i64.min = -9223372036854775808 := by decide
  have hM : IntKind.i64.max = 9223372036854775807 := by decide
  rw [hm, hM]
  omega

theorem testBit_orAll (K : List Int) (fr : Int → Nat) (x : Nat) : (orAll K fr).testBit x = K.any fun k => (fr k).testBit x := by
  unfold orAll
  induction K with
  | nil => simp
  | cons k K ih => simp only [List.foldr_cons, Nat.testBit_or, ih, List.any_cons]

/-- The keys of the first p but one. -/
def butOne (f p : Nat) : List Int := ((List.range p).filter fun j => j ≠ f).map fun j : Nat => (j : Int)

theorem mem_butOne {f p : Nat} {x : Int} : x ∈ butOne f p ↔ ∃ j : Nat, x = j ∧ j < p ∧ j ≠ f := by
  unfold butOne
  rw [List.mem_map]
  constructor
  · rintro ⟨j, hj, rfl⟩; simp at hj; exact ⟨j, rfl, hj.1, hj.2⟩
  · rintro ⟨j, rfl, h1, h2⟩; exact ⟨j, by simp [h1, h2], rfl⟩

theorem butOne_succ (f p : Nat) (fr : Int → Nat) : orAll (butOne f (p + 1)) fr = if p = f then orAll (butOne f p) fr else orAll (butOne f p) fr ||| fr p := by
  refine Nat.eq_of_testBit_eq fun x => ?_
  unfold butOne
  rw [List.range_succ, List.filter_append, List.map_append]
  by_cases h : p = f
  · rw [if_pos h]; simp [h]
  · rw [if_neg h, Nat.testBit_or, testBit_orAll, testBit_orAll, List.any_append]
    simp [h]

theorem and_zero {a b : Nat} : a &&& b = 0 ↔ ∀ x, ¬ (a.testBit x = true ∧ b.testBit x = true) := by
  constructor
  · intro h x ⟨h1, h2⟩
    have := congrArg (·.testBit x) h
    simp [Nat.testBit_and, h1, h2] at this
  · intro h
    refine Nat.eq_of_testBit_eq fun x => ?_
    have := h x
    rw [Nat.testBit_and]
    cases h1 : a.testBit x <;> cases h2 : b.testBit x <;> simp_all

/-- Bells of which each is bound to one of four at most. -/
structure ApartAt (e : BSet) : Prop where
  keys : ∀ k ∈ e.K, 0 ≤ k ∧ k < 4
  out : ∀ k, k ∉ e.K → e.fr k = 0
  apart : ∀ i j, i ≠ j → e.fr i &&& e.fr j = 0
  lt : ∀ k, e.fr k < 18446744073709551616

theorem ApartAt.others {e : BSet} (h : ApartAt e) (f : Nat) (p : Nat) (hp : p ≠ f) : orAll (butOne f p) e.fr &&& e.fr p = 0 := by
  rw [and_zero]
  rintro x ⟨h1, h2⟩
  rw [testBit_orAll, List.any_eq_true] at h1
  obtain ⟨k, hk, h3⟩ := h1
  obtain ⟨j, rfl, hj, _⟩ := mem_butOne.1 hk
  exact and_zero.1 (h.apart (j : Int) (p : Int) (by omega)) x ⟨h3, h2⟩

theorem ApartAt.whole {e : BSet} (h : ApartAt e) {f : Nat} (hf : f < 4) : e.fr f ||| orAll (butOne f 4) e.fr = orAll e.K e.fr := by
  refine Nat.eq_of_testBit_eq fun x => ?_
  rw [Nat.testBit_or, testBit_orAll, testBit_orAll, Bool.eq_iff_iff, Bool.or_eq_true, List.any_eq_true, List.any_eq_true]
  constructor
  · rintro (h1 | ⟨k, _, h1⟩)
    · refine ⟨(f : Int), ?_, h1⟩
      apply Decidable.byContradiction
      intro hn
      rw [h.out _ hn] at h1
      simp at h1
    · refine ⟨k, ?_, h1⟩
      apply Decidable.byContradiction
      intro hn
      rw [h.out _ hn] at h1
      simp at h1
  · rintro ⟨k, hk, h1⟩
    have hk4 := h.keys k hk
    by_cases e1 : k = (f : Int)
    · subst e1; exact .inl h1
    · exact .inr ⟨k, mem_butOne.2 ⟨k.toNat, by omega, by omega, by omega⟩, h1⟩

theorem ApartAt.bound {e : BSet} (h : ApartAt e) {f : Nat} (hf : f < 4) {bits : Nat} (hb : bits < 18446744073709551616) (hfree : orAll e.K e.fr &&& bits = 0) : ApartAt (bindB f bits e) := by
  have hmem : ∀ x, x ∈ addK e.K f ↔ x = (f : Int) ∨ x ∈ e.K := fun x => by
    unfold addK
    split
    · rename_i hk
      constructor
      · exact .inr
      · rintro (rfl | hx)
        · exact hk
        · exact hx
    · simp
  have hsub : ∀ k, e.fr k &&& bits = 0 := fun k => by
    by_cases hk : k ∈ e.K
    · rw [and_zero] at hfree ⊢
      rintro x ⟨h1, h2⟩
      exact hfree x ⟨by rw [testBit_orAll, List.any_eq_true]; exact ⟨k, hk, h1⟩, h2⟩
    · rw [h.out k hk]; simp
  refine ⟨fun k hk => ?_, fun k hk => ?_, fun i j hij => ?_, fun k => ?_⟩
  · rcases (hmem k).1 hk with rfl | hk
    · omega
    · exact h.keys k hk
  · have : k ≠ (f : Int) ∧ k ∉ e.K := by
      have h1 : k ∉ addK e.K f := hk
      rw [hmem] at h1
      exact ⟨fun e => h1 (.inl e), fun e => h1 (.inr e)⟩
    show (if k = (f : Int) then e.fr f ||| bits else e.fr k) = 0
    rw [if_neg this.1]
    exact h.out k this.2
  · show (if i = (f : Int) then e.fr f ||| bits else e.fr i) &&& (if j = (f : Int) then e.fr f ||| bits else e.fr j) = 0
    by_cases e1 : i = (f : Int)
    · have e2 : ¬ j = (f : Int) := fun e2 => hij (e1.trans e2.symm)
      rw [if_pos e1, if_neg e2, and_zero]
      rintro x ⟨h1, h2⟩
      rw [Nat.testBit_or, Bool.or_eq_true] at h1
      rcases h1 with h1 | h1
      · exact and_zero.1 (h.apart f j (fun e => e2 e.symm)) x ⟨h1, h2⟩
      · exact and_zero.1 (hsub j) x ⟨h2, h1⟩
    · rw [if_neg e1]
      by_cases e2 : j = (f : Int)
      · rw [if_pos e2, and_zero]
        rintro x ⟨h1, h2⟩
        rw [Nat.testBit_or, Bool.or_eq_true] at h2
        rcases h2 with h2 | h2
        · exact and_zero.1 (h.apart i f e1) x ⟨h1, h2⟩
        · exact and_zero.1 (hsub i) x ⟨h1, h2⟩
      · rw [if_neg e2]; exact h.apart i j hij
  · show (if k = (f : Int) then e.fr f ||| bits else e.fr k) < _
    split
    · exact Nat.or_lt_two_pow (n := 64) (h.lt f) hb
    · exact h.lt k

/-- The bells of four, and the harness's row of what is rung. -/
structure FourAt (w : World) (B b k lo : Nat) (l : List BSet) : Prop where
  at_ : BellsAt w B b k l
  who : l.map BSet.who = (List.range k).map fun i : Nat => (i : Int)
  ap : ∀ e ∈ l, ApartAt e
  low : ∀ e ∈ l, lo ≤ e.S ∧ lo ≤ e.f
  Blo : lo ≤ B ∧ lo ≤ b

theorem FourAt.mem {w : World} {B b k lo : Nat} {l : List BSet} (h : FourAt w B b k lo l) {s : Nat} (hs : s < k) : ∃ e ∈ l, e.who = (s : Int) := by
  have : (s : Int) ∈ l.map BSet.who := by rw [h.who]; exact List.mem_map.2 ⟨s, by simpa using hs, rfl⟩
  obtain ⟨e, he, h1⟩ := List.mem_map.1 this
  exact ⟨e, he, h1⟩

theorem FourAt.lt {w : World} {B b k lo : Nat} {l : List BSet} (h : FourAt w B b k lo l) {e : BSet} (he : e ∈ l) : ∃ j : Nat, e.who = (j : Int) ∧ j < k := by
  have : e.who ∈ l.map BSet.who := List.mem_map_of_mem he
  rw [h.who] at this
  obtain ⟨j, hj, e1⟩ := List.mem_map.1 this
  exact ⟨j, e1.symm, by simpa using hj⟩

structure OthersAt (w : World) (B b lo N i : Nat) (l : List BSet) : Prop where
  four : FourAt w B b 4 lo l
  lowN : ∀ e ∈ l, e.S < N ∧ e.f < N
  BN : B < N ∧ b < N
  cell : ∀ e ∈ l, ∀ j : Nat, e.who = (j : Int) → w.cell? ⟨N, j, none⟩ = some (.int .u64 e.rung)
  fz : ∀ j, j < 4 → w.frozen? ⟨N, j, none⟩ = false
  Nlt : N < w.heap.size
  few : ∀ e ∈ l, e.n ≤ i

theorem OthersAt.core {w w4 : World} {B b lo N i : Nat} {l : List BSet} (h : OthersAt w B b lo N i l) {s : Nat} {e : BSet} (he : e ∈ l) (hes : e.who = (s : Int)) (g : BSet → BSet) (hg : ∀ e, (g e).who = e.who ∧ (g e).S = e.S ∧ (g e).f = e.f) (hap : ApartAt (g e)) (hn : (g e).n ≤ i + 1)
    (hB4 : BellsAt w4 B b 4 (updB l s g)) (hcs : w4.cell? ⟨N, s, none⟩ = some (.int .u64 (g e).rung)) (hco : ∀ j, j ≠ s → ∀ v, w.cell? ⟨N, j, none⟩ = some v → w4.cell? ⟨N, j, none⟩ = some v) (hfz : ∀ j, j < 4 → w4.frozen? ⟨N, j, none⟩ = false) (hN : N < w4.heap.size) :
    OthersAt w4 B b lo N (i + 1) (updB l s g) := by
  have hproj : ∀ x ∈ updB l s g, ∃ y ∈ l, x.who = y.who ∧ x.S = y.S ∧ x.f = y.f ∧ ((y.who = s ∧ x = g e) ∨ (y.who ≠ s ∧ x = y)) := fun x hx => by
    obtain ⟨y, hy, rfl⟩ := mem_updB hx
    refine ⟨y, hy, ?_⟩
    split
    · rename_i e1
      have : y = e := h.four.at_.same hy he (by rw [e1, hes])
      subst this
      exact ⟨(hg y).1, (hg y).2.1, (hg y).2.2, .inl ⟨e1, rfl⟩⟩
    · rename_i e1
      exact ⟨rfl, rfl, rfl, .inr ⟨e1, rfl⟩⟩
  refine ⟨⟨hB4, ?_, fun x hx => ?_, fun x hx => ?_, h.four.Blo⟩, fun x hx => ?_, h.BN, fun x hx j hj => ?_, hfz, hN, fun x hx => ?_⟩
  · rw [updB_whos _ _ _ fun e => (hg e).1]; exact h.four.who
  · obtain ⟨y, hy, _, _, _, ⟨_, rfl⟩ | ⟨_, rfl⟩⟩ := hproj x hx
    · exact hap
    · exact h.four.ap x hy
  · obtain ⟨y, hy, _, e2, e3, _⟩ := hproj x hx
    rw [e2, e3]; exact h.four.low y hy
  · obtain ⟨y, hy, _, e2, e3, _⟩ := hproj x hx
    rw [e2, e3]; exact h.lowN y hy
  · obtain ⟨y, hy, e1, _, _, ⟨e5, rfl⟩ | ⟨e5, rfl⟩⟩ := hproj x hx
    · have : j = s := by rw [← e1, hj] at e5; omega
      subst this
      exact hcs
    · exact hco j (fun e' => e5 (by rw [hj, e'])) _ (h.cell x hy j hj)
  · obtain ⟨y, hy, _, _, _, ⟨_, rfl⟩ | ⟨_, rfl⟩⟩ := hproj x hx
    · exact hn
    · have := h.few x hy; omega

theorem OthersAt.kept {w w' : World} {B b lo N i : Nat} {l : List BSet} (h : OthersAt w B b lo N i l) (hg : GrowBut w w' []) : OthersAt w' B b lo N i l :=
  ⟨⟨h.four.at_.kept hg (by simp) (by simp) (fun e he => by simp), h.four.who, h.four.ap, h.four.low, h.four.Blo⟩, h.lowN, h.BN, fun e he j hj => hg.cell (h.cell e he j hj) (by simp), fun j hj => hg.frozen h.Nlt (h.fz j hj) (by simp), Nat.lt_of_lt_of_le h.Nlt hg.size, h.few⟩

theorem four_of (x : Int) : ∃ s : Nat, (wrap64 (x.tmod 4 + 4)).tmod 4 = (s : Int) ∧ s < 4 := by
  have h1 : -4 < x.tmod 4 ∧ x.tmod 4 < 4 := by
    have := Int.tmod_lt_of_pos x (b := 4) (by decide)
    have := Int.lt_tmod_of_pos x (b := 4) (by decide)
    omega
  generalize x.tmod 4 = y at h1
  have : y = -3 ∨ y = -2 ∨ y = -1 ∨ y = 0 ∨ y = 1 ∨ y = 2 ∨ y = 3 := by omega
  rcases this with rfl | rfl | rfl | rfl | rfl | rfl | rfl
  · exact ⟨1, by decide +kernel, by decide⟩
  · exact ⟨2, by decide +kernel, by decide⟩
  · exact ⟨3, by decide +kernel, by decide⟩
  · exact ⟨0, by decide +kernel, by decide⟩
  · exact ⟨1, by decide +kernel, by decide⟩
  · exact ⟨2, by decide +kernel, by decide⟩
  · exact ⟨3, by decide +kernel, by decide⟩

theorem wf_u64' {a : Int} (h : (Lit.int .u64 a).wf = true) : 0 ≤ a ∧ a < 18446744073709551616 := by
  simp only [Lit.wf, Bool.and_eq_true, decide_eq_true_eq] at h
  have hm : IntKind.u64.min = 0 := by decide
  have hM : IntKind.u64.max = 18446744073709551615 := by decide
  rw [hm, hM] at h
  omega

theorem OthersAt.stay {w w' : World} {B b lo N i : Nat} {l : List BSet} (h : OthersAt w B b lo N i l) (hg : GrowBut w w' []) : OthersAt w' B b lo N (i + 1) l :=
  ⟨⟨h.four.at_.kept hg (by simp) (by simp) (fun e he => by simp), h.four.who, h.four.ap, h.four.low, h.four.Blo⟩, h.lowN, h.BN, fun e he j hj => hg.cell (h.cell e he j hj) (by simp), fun j hj => hg.frozen h.Nlt (h.fz j hj) (by simp), Nat.lt_of_lt_of_le h.Nlt hg.size, fun e he => by have := h.few e he; omega⟩

set_option maxRecDepth 100000 in
set_option maxHeartbeats 4000000 in
theorem bellOthers_walk (n : Nat) (p : Option Addr) (cap : Nat) (w : World) (hz : ∀ i, i < n → ∃ g off, p = some ⟨g, off, none⟩ ∧ g < w.heap.size ∧ ∃ cs : List Value, Deed17 cs ∧ cs.length = 4 ∧ ∀ j, j < 4 → w.cell? ⟨g, off + i * 4 + j, none⟩ = cs[j]?) :
    Calls Try.prog 9 #[.slice p n cap] w fun e w' => e = .returned (.bool true) ∧ w.grownBy w' none := by
  by_cases h40 : 40 < n
  · have h1 : (40 : Int) < (n : Int) := by omega
    go_enter Try.func9, Try.ntmps9
    go_wp2_with (first
      | (go_at_call 52; refine (begunBell_true _).mono ?_; rintro e w1 ⟨rfl, hb1⟩)
      | go_in)
    go_ret
    exact ⟨rfl, (GrowBut.of_below hb1).keepAll⟩
  have h1 : ¬ (40 : Int) < (n : Int) := by omega
  go_enter Try.func9, Try.ntmps9
  go_wp2_with (first
    | (go_at_call 52; refine (begunBell_true _).mono ?_; rintro e w1 ⟨rfl, hb1⟩)
    | (go_at_call 53; refine (newBell_calls w1).mono ?_; rintro e w2 ⟨B, b, rfl, hB2, hBlo, hblo, hg2⟩)
    | go_in)
  have hw2 : GrowBut w w2 [] := (GrowBut.of_below hb1).trans hg2
  have hs1 := hb1.size
  go_loopw [4] (fun v4 wr => ∃ (k : Nat) (l : List BSet), v4 = .int .i64 k ∧ k ≤ 4 ∧ FourAt wr B b k w.heap.size l ∧ (∀ e ∈ l, e.rung = 0 ∧ e.n = 0) ∧ GrowBut w wr []) (fun v4 _ => 4 - (match v4 with | .int _ k => k.toNat | _ => 0))
  case atStart => exact ⟨0, [], rfl, by omega, ⟨hB2, rfl, fun e he => (by cases he), fun e he => (by cases he), by omega⟩, fun e he => (by cases he), hw2⟩
  case round =>
    obtain ⟨k, l, rfl, hk, hF, hfr, hG⟩ := hrel
    by_cases hlt : k < 4
    · have hlt' : (k : Int) < 4 := by omega
      have hnew : (k : Int) ∉ l.map BSet.who := by rw [hF.who]; simp; intro x hx; omega
      have hmk := make_calls B b k l k wr hF.at_ hnew (wf_small (by omega)) (by omega)
      go_wp2_with (first
        | (go_at_call 55; refine hmk.mono ?_; rintro e w3 ⟨rfl, S, f, hB3, hS, hf, hg3⟩)
        | go_in)
      have hGs := hG.size
      have hy : ∀ y ∈ l ++ [newB (k : Int) S f], y ∈ l ∨ y = newB (k : Int) S f := fun y hy => by simpa using hy
      refine ⟨⟨k + 1, _, by simp, by omega, ⟨hB3, ?_, fun x hx => ?_, fun x hx => ?_, hF.Blo⟩, fun x hx => ?_, ?_⟩, by simp; omega⟩
      · rw [List.map_append, hF.who, List.range_succ, List.map_append]
        rfl
      · rcases hy x hx with h1 | rfl
        · exact hF.ap x h1
        · exact ⟨fun k hk => (by cases hk), fun _ _ => rfl, fun _ _ _ => by simp [newB], fun _ => by simp [newB]⟩
      · rcases hy x hx with h1 | rfl
        · exact hF.low x h1
        · simp [newB]; omega
      · rcases hy x hx with h1 | rfl
        · exact hfr x h1
        · simp [newB]
      · have hb0 := hF.Blo
        exact hG.from hg3 (fun x hx => .inr (by simp at hx; omega))
    · have hk3 : k = 4 := by omega
      subst hk3
      have hlt' : ¬ ((4 : Nat) : Int) < 4 := by omega
      simp only [Int.cast_ofNat_Int] at *
      go_wp2_with go_in
      have hlb := hF.at_.lt
      have hlb' := hF.at_.blt
      have hGs := hG.size
      have hN0 : OthersAt (wr.alloc (.cells #[.int .u64 0, .int .u64 0, .int .u64 0, .int .u64 0] 87)) B b w.heap.size wr.heap.size 0 l := by
        have hGa := GrowBut.alloc wr (.cells #[.int .u64 0, .int .u64 0, .int .u64 0, .int .u64 0] 87) []
        refine ⟨⟨hF.at_.kept hGa (by simp) (by simp) (fun e he => by simp), hF.who, hF.ap, hF.low, hF.Blo⟩, fun e he => ?_, ⟨hlb, hlb'⟩, fun e he j hj => ?_, fun j hj => ?_, by simp, fun e he => by rw [(hfr e he).2]; exact Nat.le_refl _⟩
        · obtain ⟨D, hown, _⟩ := (hF.at_.sets e he).own
          exact ⟨(hF.at_.sets e he).lt, hown.lt⟩
        · obtain ⟨j', e1, hj'⟩ := hF.lt he
          rw [(hfr e he).1]
          have : j = 0 ∨ j = 1 ∨ j = 2 ∨ j = 3 := by omega
          rcases this with rfl | rfl | rfl | rfl <;> go_simp
        · have : j = 0 ∨ j = 1 ∨ j = 2 ∨ j = 3 := by omega
          rcases this with rfl | rfl | rfl | rfl <;> go_simp
      have hGa : GrowBut w (wr.alloc (.cells #[.int .u64 0, .int .u64 0, .int .u64 0, .int .u64 0] 87)) [] := hG.trans (GrowBut.alloc _ _ _)
      generalize wr.alloc (.cells #[.int .u64 0, .int .u64 0, .int .u64 0, .int .u64 0] 87) = wa at hN0 hGa ⊢
      generalize wr.heap.size = N at hN0 hGs ⊢
      clear hF hfr hG hlb hlb' hlt hlt' hk
      go_loopw [6] (fun v6 wx => ∃ (i : Nat) (l : List BSet), v6 = .int .i64 i ∧ i ≤ n ∧ OthersAt wx B b w.heap.size N i l ∧ GrowBut w wx []) (fun v6 _ => n - (match v6 with | .int _ k => k.toNat | _ => 0))
      case atStart => exact ⟨0, l, rfl, by omega, hN0, hGa⟩
      case round =>
        obtain ⟨i, l, rfl, hi, hN, hG⟩ := hrel
        by_cases hlt : i < n
        · obtain ⟨ga, off, rfl, hga, cs, ⟨ka, wa', fa, ba, rfl, hka, hwa, hfa, hba⟩, _, hcz⟩ := hz i hlt
          have c0 : wr.cell? ⟨ga, off + i * 4, none⟩ = some (.int .i64 ka) := hG.cell (hcz 0 (by decide)) (by simp)
          have c1 : wr.cell? ⟨ga, off + i * 4 + 1, none⟩ = some (.int .i64 wa') := hG.cell (hcz 1 (by decide)) (by simp)
          have c2 : wr.cell? ⟨ga, off + i * 4 + 2, none⟩ = some (.int .i64 fa) := hG.cell (hcz 2 (by decide)) (by simp)
          have c3 : wr.cell? ⟨ga, off + i * 4 + 3, none⟩ = some (.int .u64 ba) := hG.cell (hcz 3 (by decide)) (by simp)
          clear hcz hz
          have hlt' : (i : Int) < (n : Int) := by omega
          obtain ⟨s, hs, hs4⟩ := four_of wa'
          obtain ⟨f, hf, hf4⟩ := four_of fa
          obtain ⟨m, hm, hm4⟩ := four_of ka
          have hba' := wf_u64' hba
          obtain ⟨bits, hbits, hb16⟩ : ∃ bits : Nat, ba % 16 = (bits : Int) ∧ bits < 16 := ⟨(ba % 16).toNat, by omega, by omega⟩
          go_upto_region 15 with go_in
          go_quiet (fail)
          have hGq : GrowBut wr (wr.drewN nq) [] := GrowBut.drewN wr nq []
          replace hN := hN.kept hGq
          replace hG := hG.trans hGq
          replace c0 := hGq.cell c0 (by simp)
          replace c3 := hGq.cell c3 (by simp)
          clear c1 c2 hs hf
          generalize wr.drewN nq = wq at hN hG c0 c3 ⊢
          clear hGq
          obtain ⟨e, he, hes⟩ := hN.four.mem hs4
          have hap := hN.four.ap e he
          have hkw : (Lit.int .i64 e.who).wf = true := by rw [hes]; exact wf_small (by omega)
          have hBd : ∀ k : Nat, k < 4 → Calls Try.prog 69 #[.pointer (some ⟨B, 0, none⟩), .int .i64 s, .int .i64 k] wq fun r w' => r = .returned (.int .u64 (e.fr k)) ∧ w' = wq := fun k hk => by
            have := boundOf_calls B b 4 l e k wq hN.four.at_ he hkw (wf_small (by omega))
            rwa [hes] at this
          go_wp2_with (first
            | (go_at_call 69; refine (hBd f hf4).mono ?_; rintro r w1 ⟨rfl, hw1⟩; rw [hw1]; clear hw1 w1)
            | go_in)
          go_loopw [11, 12] (fun v11 v12 wy => ∃ q : Nat, v11 = .int .u64 (orAll (butOne f q) e.fr : Nat) ∧ v12 = .int .i64 q ∧ q ≤ 4 ∧ wy = wq) (fun _ v12 _ => 4 - (match v12 with | .int _ k => k.toNat | _ => 0))
          case atStart => exact ⟨0, by simp [butOne, orAll], rfl, by omega, rfl⟩
          case round =>
            obtain ⟨q, rfl, rfl, hq4, rfl⟩ := hrel
            by_cases hq : q < 4
            · have hq' : (q : Int) < 4 := by omega
              have hsu := butOne_succ f q e.fr
              by_cases hqf : q = f
              · subst hqf
                rw [if_pos rfl] at hsu
                go_wp2_with go_in
                exact ⟨⟨q + 1, by rw [hsu], by simp, by omega, by simp⟩, by simp; omega⟩
              · have hqf' : ¬ (q : Int) = (f : Int) := by omega
                rw [if_neg hqf] at hsu
                have hA1 := u64_and_nat (orAll (butOne f q) e.fr) (e.fr q) (orAll_lt hap.lt) (hap.lt q)
                rw [hap.others f q hqf] at hA1
                have hA2 := u64_and_nat (e.fr f) (e.fr q) (hap.lt f) (hap.lt q)
                rw [hap.apart f q (fun e' => hqf' e'.symm)] at hA2
                have hA3 := u64_or_nat (orAll (butOne f q) e.fr) (e.fr q) (orAll_lt hap.lt) (hap.lt q)
                have hBq := hBd q hq
                go_wp2_with (first
                  | (go_at_call 69; refine hBq.mono ?_; rintro r w1 ⟨rfl, hw1⟩; rw [hw1]; clear hw1 w1)
                  | go_in)
                exact ⟨⟨q + 1, by rw [hsu], by simp, by omega, by simp⟩, by simp; omega⟩
            · have hq5 : q = 4 := by omega
              subst hq5
              have hq' : ¬ ((4 : Nat) : Int) < 4 := by omega
              simp only [Int.cast_ofNat_Int] at hq'
              have hcN := hN.cell e he s hes
              have hfN := hN.fz s hs4
              have hlow := hN.four.low e he
              have hlowN := hN.lowN e he
              have hNl := hN.Nlt
              have hne := hN.few e he
              have hBe := hN.four.at_
              have hrl := (hBe.sets e he).rlt
              have hs4' : (s : Int) < 4 := by omega
              have hfw : (Lit.int .i64 (f : Int)).wf = true := wf_small (by omega)
              have hb64 : bits < 18446744073709551616 := by omega
              have hOr := u64_or_nat (e.fr f) (orAll (butOne f 4) e.fr) (hap.lt f) (orAll_lt hap.lt)
              rw [hap.whole hf4] at hOr
              have hAn := u64_and_nat bits (orAll e.K e.fr) hb64 (orAll_lt hap.lt)
              have hNn := u64_andNot_nat bits (e.fr f) hb64 (hap.lt f)
              have hRo := u64_or_nat e.rung bits hrl hb64
              have hm4' : m = 0 ∨ m = 1 ∨ m = 2 ∨ m = 3 := by omega
              clear hBd
              rcases hm4' with rfl | rfl | hm23
              · simp only [Int.cast_ofNat_Int] at hm
                clear hNn hRo
                by_cases hb0 : bits = 0
                · subst hb0
                  simp only [Int.cast_ofNat_Int] at hbits hAn
                  have hC := bind_zero B b 4 l e f wr hBe he hkw
                  rw [hes] at hC
                  go_wp2_with (first
                    | (go_at_call 59; refine hC.mono ?_; rintro r w1 ⟨rfl, hw1⟩; rw [hw1]; clear hw1 w1)
                    | go_in)
                  exact ⟨⟨i + 1, l, by simp, by omega, hN.stay (.refl _ _), hG⟩, by simp; omega⟩
                · have hbne : ¬ (bits : Int) = 0 := by omega
                  have hbb1 : ((bits : Int) == 0) = false := beq_eq_false_iff_ne.2 hbne
                  have hbb2 : ((bits : Int) != 0) = true := bne_iff_ne.2 hbne
                  by_cases hfree : orAll e.K e.fr &&& bits = 0
                  · rw [Nat.and_comm, hfree] at hAn
                    have hC := bind_calls B b 4 l e f bits wr hBe he hkw hfw hb64 hb0 hfree (by omega)
                    rw [hes] at hC
                    go_wp2_with (first
                      | (go_at_call 59; refine hC.mono ?_; rintro r w1 ⟨rfl, hB1, hg1⟩)
                      | go_in)
                    have hNf : N ∉ [e.f] := by simp; omega
                    exact ⟨⟨i + 1, _, by simp, by omega, hN.core he hes (bindB f bits) (fun e => ⟨rfl, rfl, rfl⟩) (hap.bound hf4 hb64 hfree) (by simp [bindB]; omega) hB1 (hg1.cell hcN hNf) (fun j _ v hv => hg1.cell hv hNf) (fun j hj => hg1.frozen hNl (hN.fz j hj) hNf) (Nat.lt_of_lt_of_le hNl hg1.size), hG.from hg1 (fun x hx => .inr (by simp at hx; omega))⟩, by simp; omega⟩
                  · have hC := bind_denied B b 4 l e f bits wr hBe he hkw hb64 hb0 hfree (by omega)
                    rw [hes] at hC
                    rw [Nat.and_comm] at hfree
                    generalize bits &&& orAll e.K e.fr = an at hAn hfree
                    have han : ¬ (an : Int) = 0 := by omega
                    have hab1 : ((an : Int) == 0) = false := beq_eq_false_iff_ne.2 han
                    go_wp2_with (first
                      | (go_at_call 59; refine hC.mono ?_; rintro r w1 ⟨rfl, hg1⟩)
                      | go_in)
                    exact ⟨⟨i + 1, l, by simp, by omega, hN.stay hg1, hG.trans hg1⟩, by simp; omega⟩
              · simp only [Int.cast_ofNat_Int] at hm
                clear hNn hRo hAn hOr
                have hC := hear_calls B b 4 l e wr hBe he hkw
                rw [hes] at hC
                have hNf : N ∉ [e.S] := by simp; omega
                have hcf : ∀ w1, GrowBut wr w1 [e.S] → w1.cell? ⟨N, s, none⟩ = some (.int .u64 e.rung) ∧ w1.frozen? ⟨N, s, none⟩ = false := fun w1 hg => ⟨hg.cell hcN hNf, hg.frozen hNl hfN hNf⟩
                go_wp2_with (first
                  | (go_at_call 65; refine hC.mono ?_; rintro r w1 ⟨rfl, hB1, hg1⟩; obtain ⟨hc1, hf1⟩ := hcf w1 hg1)
                  | go_in)
                have hgN := GrowBut.setCell w1 ⟨N, s, none⟩ (.int .u64 0)
                have hBN := hN.BN
                exact ⟨⟨i + 1, _, by simp, by omega, hN.core he hes (fun e => { e with rung := 0, fresh := false }) (fun e => ⟨rfl, rfl, rfl⟩) ⟨hap.keys, hap.out, hap.apart, hap.lt⟩ (by simp; omega) (hB1.kept hgN (by simp; omega) (by simp; omega) (fun x hx => by
                    obtain ⟨y, hy, rfl⟩ := mem_updB hx
                    have := hN.lowN y hy
                    split <;> simp <;> omega)) (by simpa using cellJ_same hc1) (fun j hj v hv => cellJ_off (hg1.cell hv hNf) hj) (fun j hj => by rw [frozenJ]; exact hg1.frozen hNl (hN.fz j hj) hNf) (by have := hg1.size; simp; omega), hG.from ((hg1.mono (l' := [e.S, N]) (by simp)).trans (hgN.mono (by simp))) (fun x hx => .inr (by simp at hx; omega))⟩, by simp; omega⟩
              · have hm0 : ¬ (m : Int) = 0 := by omega
                have hm1 : ¬ (m : Int) = 1 := by omega
                clear hAn hOr
                have hNf : N ∉ [e.S] := by simp; omega
                have hcf : ∀ w1, GrowBut wr w1 [e.S] → w1.cell? ⟨N, s, none⟩ = some (.int .u64 e.rung) ∧ w1.frozen? ⟨N, s, none⟩ = false := fun w1 hg => ⟨hg.cell hcN hNf, hg.frozen hNl hfN hNf⟩
                by_cases hb0 : bits = 0
                · subst hb0
                  simp only [Int.cast_ofNat_Int] at hbits hNn hRo
                  have hC := ring_zero B b 4 l e f wr hBe he hkw
                  rw [hes] at hC
                  go_wp2_with (first
                    | (go_at_call 63; refine hC.mono ?_; rintro r w1 ⟨rfl, hw1⟩; rw [hw1]; clear hw1 w1)
                    | go_in)
                  exact ⟨⟨i + 1, l, by simp, by omega, hN.stay (.refl _ _), hG⟩, by simp; omega⟩
                · have hbne : ¬ (bits : Int) = 0 := by omega
                  have hbb1 : ((bits : Int) == 0) = false := beq_eq_false_iff_ne.2 hbne
                  have hbb2 : ((bits : Int) != 0) = true := bne_iff_ne.2 hbne
                  by_cases hin : bits &&& (18446744073709551615 - e.fr f) = 0
                  · rw [hin] at hNn
                    have hC := ring_calls B b 4 l e f bits wr hBe he hkw hfw hb64 hb0 hin
                    rw [hes] at hC
                    go_wp2_with (first
                      | (go_at_call 63; refine hC.mono ?_; rintro r w1 ⟨rfl, hB1, hg1⟩; obtain ⟨hc1, hf1⟩ := hcf w1 hg1)
                      | go_in)
                    have hgN := GrowBut.setCell w1 ⟨N, s, none⟩ (.int .u64 ((e.rung ||| bits : Nat) : Int))
                    have hBN := hN.BN
                    exact ⟨⟨i + 1, _, by simp, by omega, hN.core he hes (fun e => { e with rung := e.rung ||| bits, fresh := true }) (fun e => ⟨rfl, rfl, rfl⟩) ⟨hap.keys, hap.out, hap.apart, hap.lt⟩ (by simp; omega) (hB1.kept hgN (by simp; omega) (by simp; omega) (fun x hx => by
                      obtain ⟨y, hy, rfl⟩ := mem_updB hx
                      have := hN.lowN y hy
                      split <;> simp <;> omega)) (cellJ_same hc1) (fun j hj v hv => cellJ_off (hg1.cell hv hNf) hj) (fun j hj => by rw [frozenJ]; exact hg1.frozen hNl (hN.fz j hj) hNf) (by have := hg1.size; simp; omega), hG.from ((hg1.mono (l' := [e.S, N]) (by simp)).trans (hgN.mono (by simp))) (fun x hx => .inr (by simp at hx; omega))⟩, by simp; omega⟩
                  · have hC := ring_denied B b 4 l e f bits wr hBe he hkw hfw hb64 hb0 hin
                    rw [hes] at hC
                    generalize bits &&& (18446744073709551615 - e.fr f) = an at hNn hin
                    have han : ¬ (an : Int) = 0 := by omega
                    have hab1 : ((an : Int) == 0) = false := beq_eq_false_iff_ne.2 han
                    go_wp2_with (first
                      | (go_at_call 63; refine hC.mono ?_; rintro r w1 ⟨rfl, hw1⟩; rw [hw1]; clear hw1 w1)
                      | go_in)
                    exact ⟨⟨i + 1, l, by simp, by omega, hN.stay (.refl _ _), hG⟩, by simp; omega⟩
        · have hge : ¬ (i : Int) < (n : Int) := by omega
          go_wp2_with go_in
          go_ret
          exact ⟨rfl, hG.keepAll⟩

end Go.Proofs.Ytlcmcdgbidiicaa
