/-
  BellNews: the walk.
-/
import Derived.Test.YtlcmcdgbidiicaaBellC
import Derived.Test.YtlcmcdgbidiicaaBellB
import Derived.Test.YtlcmcdgbidiicaaOpens
import Derived.Deep.Cut
namespace Go.Proofs.Ytlcmcdgbidiicaa
open Go Go.RowKit Go.Maps Go.Am
set_option linter.unusedVariables false

theorem getD_mem {l : List Int} {k : Nat} (h : k < l.length) : l.getD k 0 ∈ l := by
  rw [List.getD_eq_getElem?_getD, List.getElem?_eq_getElem h]; simp

theorem add_block (a : Addr) (i : Nat) : (a.add i).block = a.block := by unfold Addr.add; split <;> rfl

theorem wf_u8 {a : Int} (h : (Lit.int .u8 a).wf = true) : 0 ≤ a ∧ a < 256 := by
  simp only [Lit.wf, Bool.and_eq_true, decide_eq_true_eq] at h
  have hm : IntKind.u8.min = 0 := by decide
  have hM : IntKind.u8.max = 255 := by decide
  rw [hm, hM] at h
  omega

theorem wf_small {k : Nat} (h : k < 1000) : (Lit.int .i64 (k : Int)).wf = true := by
  simp only [Lit.wf, Bool.and_eq_true, decide_eq_true_eq]
  have hm : IntKind.i64.min = -9223372036854775808 := by decide
  have hM : IntKind.i64.max = 9223372036854775807 := by decide
  rw [hm, hM]
  omega

/-- The bells of the first k. -/
structure FirstAt (w : World) (B b k lo : Nat) (l : List BSet) : Prop where
  at_ : BellsAt w B b k l
  who : l.map BSet.who = (List.range k).map fun i : Nat => (i : Int)
  five : ∀ e ∈ l, e.fr 5 = 1
  low : ∀ e ∈ l, lo ≤ e.S ∧ lo ≤ e.f
  Blo : lo ≤ B ∧ lo ≤ b

theorem FirstAt.mem {w : World} {B b k lo : Nat} {l : List BSet} (h : FirstAt w B b k lo l) {s : Nat} (hs : s < k) : ∃ e ∈ l, e.who = (s : Int) := by
  have : (s : Int) ∈ l.map BSet.who := by rw [h.who]; exact List.mem_map.2 ⟨s, by simpa using hs, rfl⟩
  obtain ⟨e, he, h1⟩ := List.mem_map.1 this
  exact ⟨e, he, h1⟩

/-- The bells, and the harness's own row of who has news. -/
structure NewsAt (w : World) (B b lo N : Nat) (l : List BSet) : Prop where
  first : FirstAt w B b 3 lo l
  lowN : ∀ e ∈ l, e.S < N ∧ e.f < N
  BN : B < N ∧ b < N
  cell : ∀ e ∈ l, ∀ j : Nat, e.who = (j : Int) → w.cell? ⟨N, j, none⟩ = some (.bool e.fresh)
  fz : ∀ j, j < 3 → w.frozen? ⟨N, j, none⟩ = false
  Nlt : N < w.heap.size

theorem FirstAt.lt3 {w : World} {B b k lo : Nat} {l : List BSet} (h : FirstAt w B b k lo l) {e : BSet} (he : e ∈ l) : ∃ j : Nat, e.who = (j : Int) ∧ j < k := by
  have : e.who ∈ l.map BSet.who := List.mem_map_of_mem he
  rw [h.who] at this
  obtain ⟨j, hj, e1⟩ := List.mem_map.1 this
  exact ⟨j, e1.symm, by simpa using hj⟩

theorem NewsAt.turn {w w3 : World} {B b lo N : Nat} {l : List BSet} (h : NewsAt w B b lo N l) {s : Nat} (hs : s < 3) {e : BSet} (he : e ∈ l) (hes : e.who = (s : Int)) (g : BSet → BSet) (hg : ∀ e, (g e).who = e.who ∧ (g e).S = e.S ∧ (g e).f = e.f ∧ (g e).fr = e.fr) (fr : Bool) (hgf : ∀ e, (g e).fresh = fr)
    (hB3 : BellsAt w3 B b 3 (updB l s g)) (hg3 : GrowBut w w3 [e.S]) : NewsAt (w3.setCell ⟨N, s, none⟩ (.bool fr)) B b lo N (updB l s g) ∧ GrowBut w (w3.setCell ⟨N, s, none⟩ (.bool fr)) [e.S, N] := by
  have hproj : ∀ x ∈ updB l s g, ∃ y ∈ l, x.who = y.who ∧ x.S = y.S ∧ x.f = y.f ∧ x.fr = y.fr ∧ (y.who = s → x.fresh = fr) ∧ (y.who ≠ s → x = y) := fun x hx => by
    obtain ⟨y, hy, rfl⟩ := mem_updB hx
    refine ⟨y, hy, ?_⟩
    split
    · rename_i e1
      exact ⟨(hg y).1, (hg y).2.1, (hg y).2.2.1, (hg y).2.2.2, fun _ => hgf y, fun hn => absurd e1 hn⟩
    · rename_i e1
      exact ⟨rfl, rfl, rfl, rfl, fun hn => absurd hn e1, fun _ => rfl⟩
  have hsN := h.lowN e he
  have hN : GrowBut w3 (w3.setCell ⟨N, s, none⟩ (.bool fr)) [N] := GrowBut.setCell w3 ⟨N, s, none⟩ _
  have hNe : N ∉ [e.S] := by simp; omega
  have hBN := h.BN
  refine ⟨⟨⟨hB3.kept hN (by simp; omega) (by simp; omega) (fun x hx => ?_), ?_, fun x hx => ?_, fun x hx => ?_, h.first.Blo⟩, fun x hx => ?_, hBN, fun x hx j hj => ?_, fun j hj => ?_, ?_⟩, (hg3.mono (by simp)).trans (hN.mono (by simp))⟩
  · obtain ⟨y, hy, _, e2, e3, _⟩ := hproj x hx
    have := h.lowN y hy
    rw [e2, e3]; simp; omega
  · rw [updB_whos _ _ _ fun e => (hg e).1]; exact h.first.who
  · obtain ⟨y, hy, _, _, _, e4, _⟩ := hproj x hx
    rw [e4]; exact h.first.five y hy
  · obtain ⟨y, hy, _, e2, e3, _⟩ := hproj x hx
    rw [e2, e3]; exact h.first.low y hy
  · obtain ⟨y, hy, _, e2, e3, _⟩ := hproj x hx
    rw [e2, e3]; exact h.lowN y hy
  · obtain ⟨y, hy, e1, _, _, _, e5, e6⟩ := hproj x hx
    have hc := hg3.cell (h.cell y hy j (by rw [← e1]; exact hj)) hNe
    by_cases hys : y.who = s
    · rw [e5 hys]
      have : j = s := by rw [← e1] at hys; rw [hj] at hys; omega
      subst this
      exact cellJ_same hc
    · rw [e6 hys]
      exact cellJ_off hc (fun e' => hys (by rw [← e1, hj, e']))
  · rw [frozenJ]; exact hg3.frozen h.Nlt (h.fz j hj) hNe
  · have := hg3.size; have := h.Nlt; simp; omega

theorem NewsAt.told {w w3 w4 : World} {B b lo N : Nat} {l : List BSet} (h : NewsAt w B b lo N l) (hB3 : BellsAt w3 B b 3 (l.map fun e => { e with fresh := false })) (hg3 : GrowBut w w3 (l.map BSet.S)) (hg4 : GrowBut w3 w4 [N])
    (hc : ∀ j, j < 3 → w4.cell? ⟨N, j, none⟩ = some (.bool false)) (hf : ∀ j, j < 3 → w4.frozen? ⟨N, j, none⟩ = false) : NewsAt w4 B b lo N (l.map fun e => { e with fresh := false }) := by
  have hBN := h.BN
  refine ⟨⟨hB3.kept hg4 (by simp; omega) (by simp; omega) (fun x hx => ?_), ?_, fun x hx => ?_, fun x hx => ?_, h.first.Blo⟩, fun x hx => ?_, hBN, fun x hx j hj => ?_, hf, ?_⟩
  · obtain ⟨y, hy, rfl⟩ := List.mem_map.1 hx
    have := h.lowN y hy
    simp; omega
  · rw [List.map_map]; exact h.first.who
  · obtain ⟨y, hy, rfl⟩ := List.mem_map.1 hx
    exact h.first.five y hy
  · obtain ⟨y, hy, rfl⟩ := List.mem_map.1 hx
    exact h.first.low y hy
  · obtain ⟨y, hy, rfl⟩ := List.mem_map.1 hx
    exact h.lowN y hy
  · obtain ⟨y, hy, rfl⟩ := List.mem_map.1 hx
    obtain ⟨j', e1, hj'⟩ := h.first.lt3 hy
    have e2 : y.who = (j : Int) := hj
    exact hc j (by omega)
  · have := hg3.size; have := hg4.size; have := h.Nlt; omega

/-- The harness's row. -/
def RowF (w : World) (N : Nat) (F : Nat → Bool) : Prop := ∀ j, j < 3 → w.cell? ⟨N, j, none⟩ = some (.bool (F j)) ∧ w.frozen? ⟨N, j, none⟩ = false

def fromF (F : Nat → Bool) (p : Nat) : Nat → Bool := fun j => if j < p then false else F j

theorem RowF.now {w : World} {N : Nat} {F : Nat → Bool} {p : Nat} (h : RowF w N (fromF F p)) (hp : p < 3) : w.cell? ⟨N, p, none⟩ = some (.bool (F p)) ∧ w.frozen? ⟨N, p, none⟩ = false := by
  have := h p hp
  simpa [fromF] using this

theorem RowF.skip {w : World} {N : Nat} {F : Nat → Bool} {p : Nat} (h : RowF w N (fromF F p)) (hF : F p = false) : RowF w N (fromF F (p + 1)) := fun j hj => by
  have := h j hj
  have e : fromF F (p + 1) j = fromF F p j := by
    unfold fromF
    by_cases h1 : j < p
    · rw [if_pos h1, if_pos (by omega)]
    · rw [if_neg h1]
      by_cases h2 : j = p
      · subst h2; rw [if_pos (by omega), hF]
      · rw [if_neg (by omega)]
  rw [e]
  exact this

theorem RowF.put {w : World} {N : Nat} {F : Nat → Bool} {p : Nat} (h : RowF w N (fromF F p)) : RowF (w.setCell ⟨N, p, none⟩ (.bool false)) N (fromF F (p + 1)) := fun j hj => by
  refine ⟨?_, by rw [frozenJ]; exact (h j hj).2⟩
  by_cases e : j = p
  · subst e
    have : fromF F (j + 1) j = false := by unfold fromF; rw [if_pos (by omega)]
    rw [this]
    exact cellJ_same (v := .bool false) (h j hj).1
  · have h1 := cellJ_off (v := .bool false) (h j hj).1 e
    rw [h1]
    have : fromF F (p + 1) j = fromF F p j := by
      unfold fromF
      by_cases h2 : j < p
      · rw [if_pos h2, if_pos (by omega)]
      · rw [if_neg h2, if_neg (by omega)]
    rw [this]

theorem RowF.done {w : World} {N : Nat} {F : Nat → Bool} (h : RowF w N (fromF F 3)) : (∀ j, j < 3 → w.cell? ⟨N, j, none⟩ = some (.bool false)) ∧ ∀ j, j < 3 → w.frozen? ⟨N, j, none⟩ = false := by
  refine ⟨fun j hj => ?_, fun j hj => (h j hj).2⟩
  have := (h j hj).1
  unfold fromF at this
  rwa [if_pos hj] at this

/-- How many of the first p are. -/
def cntF (F : Nat → Bool) (p : Nat) : Nat := ((List.range p).filter F).length

theorem cntF_succ (F : Nat → Bool) (p : Nat) : cntF F (p + 1) = cntF F p + if F p then 1 else 0 := by
  unfold cntF
  rw [List.range_succ, List.filter_append, List.length_append]
  cases h : F p <;> simp [List.filter, h]

theorem told_row (F : Nat → Bool) {ss : List Int} (hp : ss.Perm (((List.range 3).filter F).map fun i : Nat => (i : Int))) : ss.length = cntF F 3 ∧ ∀ p, p < 3 → F p = true → cntF F p < ss.length ∧ (ss.mergeSort (fun x y => decide (x ≤ y))).getD (cntF F p) 0 = p := by
  refine ⟨by rw [hp.length_eq]; simp [cntF], fun p hp3 hFp => ?_⟩
  rw [isort_eq hp, hp.length_eq]
  have h3 : (List.range 3) = [0, 1, 2] := rfl
  rw [h3]
  have : p = 0 ∨ p = 1 ∨ p = 2 := by omega
  unfold cntF
  have r1 : List.range 1 = [0] := rfl
  have r2 : List.range 2 = [0, 1] := rfl
  cases h0 : F 0 <;> cases h1 : F 1 <;> cases h2 : F 2 <;> rcases this with rfl | rfl | rfl <;> simp_all <;> decide

theorem row_i64 {w : World} {base k : Nat} {v : Value} {L : List Int} (hrow : w.ownsRow base 3 1 v k (L.map encZ)) (hk : L.length = k) : (v = .slice none 0 0 ∧ k = 0) ∨ ∃ g cap, v = .slice (some ⟨g, 0, none⟩) k cap ∧ base ≤ g ∧ g < w.heap.size ∧ ∀ i, i < k → w.cell? ⟨g, i, none⟩ = some (.int .i64 (L.getD i 0)) := by
  rcases hrow.2 with ⟨rfl, hz⟩ | ⟨g, cap, cur, rfl, hbase, hb, h1, h2, h3, h4⟩
  · exact .inl ⟨rfl, hz⟩
  · refine .inr ⟨g, cap, rfl, hbase, (Array.getElem?_eq_some_iff.1 hb).1, fun i hi => ?_⟩
    have h5 : (cur.toList.take (k * 1))[i]? = (L.map encZ)[i]? := by rw [h4]
    rw [List.getElem?_take_of_lt (by omega), List.getElem?_map] at h5
    have h6 : L[i]? = some (L.getD i 0) := by rw [List.getD_eq_getElem?_getD, List.getElem?_eq_getElem (by omega)]; rfl
    rw [h6] at h5
    simp only [World.cell?, hb]
    simpa [encZ] using h5

set_option maxRecDepth 100000 in
set_option maxHeartbeats 4000000 in
theorem bellNews_walk (zs : List Int) (p : Option Addr) (cap : Nat) (w : World) (hz : ∀ i, i < zs.length → ∃ a, p = some a ∧ a.block < w.heap.size ∧ w.cell? (a.add i) = some (.int .u8 (zs.getD i 0))) (hzw : ∀ n ∈ zs, (Lit.int .u8 n).wf = true) :
    Calls Try.prog 10 #[.slice p zs.length cap] w fun e w' => e = .returned (.bool true) ∧ w.grownBy w' none := by
  by_cases h40 : 40 < zs.length
  · have h1 : (40 : Int) < (zs.length : Int) := by omega
    go_enter Try.func10, Try.ntmps10
    go_wp2_with (first
      | (go_at_call 52; refine (begunBell_true _).mono ?_; rintro e w1 ⟨rfl, hb1⟩)
      | go_in)
    go_ret
    exact ⟨rfl, (GrowBut.of_below hb1).keepAll⟩
  have h1 : ¬ (40 : Int) < (zs.length : Int) := by omega
  go_enter Try.func10, Try.ntmps10
  go_wp2_with (first
    | (go_at_call 52; refine (begunBell_true _).mono ?_; rintro e w1 ⟨rfl, hb1⟩)
    | (go_at_call 53; refine (newBell_calls w1).mono ?_; rintro e w2 ⟨B, b, rfl, hB2, hBlo, hblo, hg2⟩)
    | go_in)
  have hw2 : GrowBut w w2 [] := (GrowBut.of_below hb1).trans hg2
  have hs1 := hb1.size
  go_loopw [4] (fun v4 wr => ∃ (k : Nat) (l : List BSet), v4 = .int .i64 k ∧ k ≤ 3 ∧ FirstAt wr B b k w.heap.size l ∧ (∀ e ∈ l, e.fresh = false) ∧ GrowBut w wr []) (fun v4 _ => 3 - (match v4 with | .int _ k => k.toNat | _ => 0))
  case atStart => exact ⟨0, [], rfl, by omega, ⟨hB2, rfl, fun e he => (by cases he), fun e he => (by cases he), by omega⟩, fun e he => (by cases he), hw2⟩
  case round =>
    obtain ⟨k, l, rfl, hk, hF, hfr, hG⟩ := hrel
    by_cases hlt : k < 3
    · have hlt' : (k : Int) < 3 := by omega
      have hnew : (k : Int) ∉ l.map BSet.who := by rw [hF.who]; simp; intro x hx; omega
      have hmk := make_calls B b k l k wr hF.at_ hnew (wf_small (by omega)) (by omega)
      have hbi : ∀ (S f : Nat) (w' : World), BellsAt w' B b (k + 1) (l ++ [newB k S f]) → Calls Try.prog 59 #[.pointer (some ⟨B, 0, none⟩), .int .i64 k, .int .i64 5, .int .u64 1] w' fun r w'' => r = .returned (.int .i64 0) ∧ BellsAt w'' B b (k + 1) (updB (l ++ [newB k S f]) k (bindB 5 1)) ∧ GrowBut w' w'' [f] :=
        fun S f w' h => bind_calls B b (k + 1) (l ++ [newB k S f]) (newB k S f) 5 1 w' h (by simp) (wf_small (by omega)) (by decide) (by decide) (by decide) (by simp [newB, orAll]) (by simp [newB])
      go_wp2_with (first
        | (go_at_call 55; refine hmk.mono ?_; rintro e w3 ⟨rfl, S, f, hB3, hS, hf, hg3⟩)
        | (go_at_call 59; refine (hbi S f w3 hB3).mono ?_; rintro e w4 ⟨rfl, hB4, hg4⟩)
        | go_in)
      have hy : ∀ y ∈ l ++ [newB (k : Int) S f], (y ∈ l ∧ y.who ≠ (k : Int)) ∨ y = newB (k : Int) S f := fun y hy => by
        rcases List.mem_append.1 hy with h | h
        · exact .inl ⟨h, fun e => hnew (by rw [← e]; exact List.mem_map_of_mem h)⟩
        · exact .inr (by simpa using h)
      have hGs := hG.size
      refine ⟨⟨k + 1, _, by simp, by omega, ⟨hB4, ?_, fun x hx => ?_, fun x hx => ?_, hF.Blo⟩, fun x hx => ?_, ?_⟩, by simp; omega⟩
      · rw [updB_whos _ _ (bindB 5 1) (fun e => rfl), List.map_append, hF.who, List.range_succ, List.map_append]
        rfl
      · obtain ⟨y, hy', rfl⟩ := mem_updB hx
        rcases hy y hy' with ⟨h1, h2⟩ | rfl
        · rw [if_neg h2]; exact hF.five y h1
        · simp [newB, bindB]
      · obtain ⟨y, hy', rfl⟩ := mem_updB hx
        rcases hy y hy' with ⟨h1, h2⟩ | rfl
        · rw [if_neg h2]; exact hF.low y h1
        · simp [newB, bindB]; omega
      · obtain ⟨y, hy', rfl⟩ := mem_updB hx
        rcases hy y hy' with ⟨h1, h2⟩ | rfl
        · rw [if_neg h2]; exact hfr y h1
        · simp [newB, bindB]
      · have hb0 := hF.Blo
        exact hG.from ((hg3.mono (l' := [b, f]) (by simp)).trans (hg4.mono (by simp))) (fun x hx => .inr (by simp at hx; omega))
    · have hk3 : k = 3 := by omega
      subst hk3
      have hlt' : ¬ ((3 : Nat) : Int) < 3 := by omega
      simp only [Int.cast_ofNat_Int] at *
      go_wp2_with go_in
      have hlb := hF.at_.lt
      have hlb' := hF.at_.blt
      have hGs := hG.size
      have hN0 : NewsAt (wr.alloc (.cells #[.bool false, .bool false, .bool false] 88)) B b w.heap.size wr.heap.size l := by
        have hGa := GrowBut.alloc wr (.cells #[.bool false, .bool false, .bool false] 88) []
        refine ⟨⟨hF.at_.kept hGa (by simp) (by simp) (fun e he => by simp), hF.who, hF.five, hF.low, hF.Blo⟩, fun e he => ?_, ⟨hlb, hlb'⟩, fun e he j hj => ?_, fun j hj => ?_, by simp⟩
        · obtain ⟨D, hown, _⟩ := (hF.at_.sets e he).own
          exact ⟨(hF.at_.sets e he).lt, hown.lt⟩
        · obtain ⟨j', e1, hj'⟩ := hF.lt3 he
          rw [hfr e he]
          have : j = 0 ∨ j = 1 ∨ j = 2 := by omega
          rcases this with rfl | rfl | rfl <;> go_simp
        · have : j = 0 ∨ j = 1 ∨ j = 2 := by omega
          rcases this with rfl | rfl | rfl <;> go_simp
      have hGa : GrowBut w (wr.alloc (.cells #[.bool false, .bool false, .bool false] 88)) [] := hG.trans (GrowBut.alloc _ _ _)
      generalize wr.alloc (.cells #[.bool false, .bool false, .bool false] 88) = wa at hN0 hGa ⊢
      generalize wr.heap.size = N at hN0 hGs ⊢
      clear hF hfr hG hlb hlb' hlt hlt' hk
      go_loopw [6] (fun v6 wx => ∃ (i : Nat) (l : List BSet), v6 = .int .i64 i ∧ i ≤ zs.length ∧ NewsAt wx B b w.heap.size N l ∧ GrowBut w wx []) (fun v6 _ => zs.length - (match v6 with | .int _ k => k.toNat | _ => 0))
      case atStart => exact ⟨0, l, rfl, by omega, hN0, hGa⟩
      case round =>
        obtain ⟨i, l, rfl, hi, hN, hG⟩ := hrel
        by_cases hlt : i < zs.length
        · obtain ⟨az, rfl, hazb, hcz⟩ := hz i hlt
          have hczr := hG.cell hcz (by simp)
          have hwz := wf_u8 (hzw _ (getD_mem hlt))
          generalize zs.getD i 0 = z at hczr hwz
          clear hcz
          have hlt' : (i : Int) < (zs.length : Int) := by omega
          obtain ⟨s, hs, hs3⟩ : ∃ s : Nat, z / 4 % 3 = (s : Int) ∧ s < 3 := ⟨(z / 4 % 3).toNat, by omega, by omega⟩
          have hs3' : (s : Int) < 3 := by omega
          obtain ⟨e, he, hes⟩ := hN.first.mem hs3
          have hcN := hN.cell e he s hes
          have hfN := hN.fz s hs3
          have hlow := hN.first.low e he
          have hlowN := hN.lowN e he
          have hkw : (Lit.int .i64 e.who).wf = true := by rw [hes]; exact wf_small (by omega)
          have hR := ring_calls B b 3 l e 5 1 _ hN.first.at_ he hkw (by decide) (by decide) (by decide) (by rw [hN.first.five e he]; decide)
          have hH := hear_calls B b 3 l e _ hN.first.at_ he hkw
          rw [hes] at hR hH
          simp only [Int.cast_ofNat_Int] at hR
          by_cases hm01 : z % 4 = 0 ∨ z % 4 = 1
          · have hend : ∀ w3, BellsAt w3 B b 3 (updB l (s : Int) fun e => { e with rung := e.rung ||| 1, fresh := true }) → GrowBut wr w3 [e.S] → w3.cell? ⟨N, s, none⟩ = some (.bool e.fresh) ∧ w3.frozen? ⟨N, s, none⟩ = false := fun w3 h3 hg3 => ⟨hg3.cell hcN (by simp; omega), hg3.frozen hN.Nlt hfN (by simp; omega)⟩
            rcases hm01 with hm | hm
            all_goals
              go_wp2_with (first
                | (go_at_call 63; refine hR.mono ?_; rintro r w3 ⟨rfl, hB3, hg3⟩; obtain ⟨hc3, hf3⟩ := hend w3 hB3 hg3)
                | go_in)
              have hT := hN.turn hs3 he hes (fun e => { e with rung := e.rung ||| 1, fresh := true }) (fun e => ⟨rfl, rfl, rfl, rfl⟩) true (fun e => rfl) hB3 hg3
              exact ⟨⟨i + 1, _, by simp, by omega, hT.1, hG.from hT.2 (fun x hx => .inr (by simp at hx; omega))⟩, by simp; omega⟩
          · by_cases hm2 : z % 4 = 2
            · have hend : ∀ w3, GrowBut wr w3 [e.S] → w3.cell? ⟨N, s, none⟩ = some (.bool e.fresh) ∧ w3.frozen? ⟨N, s, none⟩ = false := fun w3 hg3 => ⟨hg3.cell hcN (by simp; omega), hg3.frozen hN.Nlt hfN (by simp; omega)⟩
              go_wp2_with (first
                | (go_at_call 65; refine hH.mono ?_; rintro r w3 ⟨rfl, hB3, hg3⟩; obtain ⟨hc3, hf3⟩ := hend w3 hg3)
                | go_in)
              have hT := hN.turn hs3 he hes (fun e => { e with rung := 0, fresh := false }) (fun e => ⟨rfl, rfl, rfl, rfl⟩) false (fun e => rfl) hB3 hg3
              exact ⟨⟨i + 1, _, by simp, by omega, hT.1, hG.from hT.2 (fun x hx => .inr (by simp at hx; omega))⟩, by simp; omega⟩
            · have hm3 : z % 4 = 3 := by omega
              have hNw := news_calls B b 3 l wr hN.first.at_ (by omega) (fun e he => by obtain ⟨j, e1, hj⟩ := hN.first.lt3 he; rw [e1]; exact wf_small (by omega))
              obtain ⟨F, hFe⟩ : ∃ F : Nat → Bool, ∀ e ∈ l, ∀ j : Nat, e.who = (j : Int) → e.fresh = F j := by
                refine ⟨fun j => l.any fun e => e.who = (j : Int) && e.fresh, fun e he j hj => ?_⟩
                cases hfr : e.fresh
                · symm
                  rw [List.any_eq_false]
                  intro y hy hh
                  simp at hh
                  rw [hN.first.at_.same hy he (by rw [hh.1, hj]), hfr] at hh
                  cases hh.2
                · symm
                  rw [List.any_eq_true]
                  exact ⟨e, he, by simp [hj, hfr]⟩
              have hfilt : (l.filter BSet.fresh).map BSet.who = ((List.range 3).filter F).map fun i : Nat => (i : Int) := by
                have h1 : l.filter BSet.fresh = l.filter fun e => F e.who.toNat := List.filter_congr fun e he => by
                  obtain ⟨j, e1, hj⟩ := hN.first.lt3 he
                  rw [hFe e he j e1, e1]; rfl
                have h2 : (l.filter fun e => F e.who.toNat).map BSet.who = (l.map BSet.who).filter fun x => F x.toNat := (List.filter_map (f := BSet.who) (p := fun x => F x.toNat)).symm
                rw [h1, h2, hN.first.who, List.filter_map]
                congr 1
              go_upto_region 18 with (first
                | (go_at_call 67; refine hNw.mono ?_; rintro r w3 ⟨v, ss, rfl, hp, hrow, hB3, hg3⟩)
                | go_in)
              obtain ⟨hlen3, hrowp⟩ := told_row F (hfilt ▸ hp)
              have hss3 : ss.length ≤ 3 := by rw [hlen3]; exact List.length_filter_le _ _
              replace hlen3 := hlen3.symm
              have hcq := row_i64 hrow (List.length_mergeSort ss)
              obtain ⟨q, cq, rfl⟩ : ∃ q cq, v = .slice q ss.length cq := by
                rcases hcq with ⟨rfl, h0⟩ | ⟨g, cq, rfl, _⟩
                · exact ⟨none, 0, by rw [h0]⟩
                · exact ⟨_, _, rfl⟩
              have hNS : N ∉ l.map BSet.S := fun hm => by
                obtain ⟨y, hy, e1⟩ := List.mem_map.1 hm
                have := hN.lowN y hy
                omega
              have hF3 : RowF w3 N F := fun j hj => by
                obtain ⟨y, hy, e1⟩ := hN.first.mem hj
                have := hN.cell y hy j e1
                rw [hFe y hy j e1] at this
                exact ⟨hg3.cell this hNS, hg3.frozen hN.Nlt (hN.fz j hj) hNS⟩
              have hNl := hN.Nlt
              have hat : ∀ c, c < ss.length → ∃ g, q = some ⟨g, 0, none⟩ ∧ g ≠ N ∧ w3.cell? ⟨g, c, none⟩ = some (.int .i64 ((ss.mergeSort (fun x y => decide (x ≤ y))).getD c 0)) := fun c hc => by
                rcases hcq with ⟨_, h0⟩ | ⟨g, cap, e1, h2, h3, h4⟩
                · omega
                · cases e1; exact ⟨g, rfl, by omega, h4 c hc⟩
              clear hcq hrow hp hfilt
              generalize ss.mergeSort (fun x y => decide (x ≤ y)) = M at hrowp hat
              go_wp2_with go_in
              go_loopw [9, 10] (fun v9 v10 wy => ∃ p : Nat, v9 = .int .i64 (cntF F p : Nat) ∧ v10 = .int .i64 p ∧ p ≤ 3 ∧ RowF wy N (fromF F p) ∧ GrowBut w3 wy [N]) (fun _ v10 _ => 3 - (match v10 with | .int _ k => k.toNat | _ => 0))
              case atStart => exact ⟨0, by simp [cntF], rfl, by omega, by simpa [RowF, fromF] using hF3, .refl _ _⟩
              case round =>
                obtain ⟨p, rfl, rfl, hp3, hrf, hgy⟩ := hrel
                by_cases hlt2 : p < 3
                · have hlt2' : (p : Int) < 3 := by omega
                  obtain ⟨hcp, hfp⟩ := hrf.now hlt2
                  have hsucc := cntF_succ F p
                  by_cases hFp : F p = true
                  · obtain ⟨hk, hget⟩ := hrowp p hlt2 hFp
                    obtain ⟨g, rfl, hgN, hcg⟩ := hat _ hk
                    rw [hget] at hcg
                    have hcg2 := hgy.cell hcg (by simpa using hgN)
                    have hki : ((cntF F p : Nat) : Int) < (ss.length : Int) := by omega
                    have hki3 : ((cntF F p : Nat) : Int) < 3 := by omega
                    rw [hFp] at hcp
                    have hput := hrf.put
                    have hgN2 := hgy.trans (GrowBut.setCell _ ⟨N, p, none⟩ (.bool false))
                    rw [if_pos hFp] at hsucc
                    generalize cntF F p = c at hcg2 hki hki3 hsucc ⊢
                    clear hat hcg hget
                    go_wp2_with go_in
                    exact ⟨⟨p + 1, by rw [hsucc]; simp, by simp, by omega, hput, hgN2⟩, by simp; omega⟩
                  · have hFf : F p = false := by simpa using hFp
                    rw [hFf] at hcp
                    rw [if_neg hFp] at hsucc
                    go_wp2_with go_in
                    exact ⟨⟨p + 1, by rw [hsucc]; simp, by simp, by omega, hrf.skip hFf, hgy⟩, by simp; omega⟩
                · have hp4 : p = 3 := by omega
                  subst hp4
                  have hge3 : ¬ ((3 : Nat) : Int) < 3 := by omega
                  rw [hlen3]
                  have hTl := hN.told hB3 hg3 hgy hrf.done.1 hrf.done.2
                  go_wp2_with go_in
                  exact ⟨⟨i + 1, _, by simp, by omega, hTl, hG.from (hg3.mono (l' := l.map BSet.S ++ [N]) (fun x hx => List.mem_append_left _ hx) |>.trans (hgy.mono (fun x hx => List.mem_append_right _ hx))) (fun x hx => .inr (by
                    rcases List.mem_append.1 hx with h | h
                    · obtain ⟨y, hy, rfl⟩ := List.mem_map.1 h; exact (hN.first.low y hy).1
                    · simp at h; omega))⟩, by simp; omega⟩
        · have hge : ¬ (i : Int) < (zs.length : Int) := by omega
          go_wp2_with go_in
          go_ret
          exact ⟨rfl, hG.keepAll⟩

end Go.Proofs.Ytlcmcdgbidiicaa
