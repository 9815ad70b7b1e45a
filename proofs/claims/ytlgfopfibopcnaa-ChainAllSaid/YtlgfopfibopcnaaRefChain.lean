/-
  The reference's chain: a row of links, rising by who waits: what its methods read.
-/
import Derived.Test.YtlgfopfibopcnaaChainS
import Derived.Deep.Cut
namespace Go.Proofs.Ytlgfopfibopcnaa
open Go Go.RowKit Go.Maps Go.Sort
set_option linter.unusedVariables false

/-- The reference's chain is at R; its row is M. -/
structure RChainAt (w : World) (base R : Nat) (M : List (Int × Int)) : Prop where
  ex : ∃ v, w.cell? ⟨R, 0, none⟩ = some v ∧ w.ownsRow base 32 2 v M.length (M.flatMap encL)
  fz : w.frozen? ⟨R, 0, none⟩ = false
  lt : R < w.heap.size
  low : R < base

theorem RChainAt.kept {w w' : World} {base R : Nat} {M : List (Int × Int)} {l : List Nat} (h : RChainAt w base R M) (hg : GrowBut w w' l) (hR : R ∉ l) (hl : ∀ x ∈ l, x < base) : RChainAt w' base R M := by
  obtain ⟨v, hc, hrow⟩ := h.ex
  exact ⟨⟨v, hg.cell hc hR, hg.row hrow (fun j hj hm => by have h1 := (hrow.lt j hj).1; have := hl j hm; omega)⟩, hg.frozen h.lt h.fz hR, Nat.lt_of_lt_of_le h.lt hg.size, h.low⟩

theorem flat_get (M : List (Int × Int)) {i : Nat} (hi : i < M.length) : (M.flatMap encL)[i * 2]? = some (.int .i64 (M[i]).1) ∧ (M.flatMap encL)[i * 2 + 1]? = some (.int .i64 (M[i]).2) := by
  have h1 := flatL_get M (i * 2) (by omega) (by rw [flatL_len]; omega)
  have h2 := flatL_get M (i * 2 + 1) (by omega) (by rw [flatL_len]; omega)
  rw [show i * 2 / 2 = i by omega, show i * 2 % 2 = 0 by omega] at h1
  rw [show (i * 2 + 1) / 2 = i by omega, show (i * 2 + 1) % 2 = 1 by omega] at h2
  have e : M.toArray[i]! = M[i] := by rw [getElem!_pos M.toArray i (by simpa using hi)]; simp
  rw [e] at h1 h2
  rw [List.getElem?_eq_getElem (by rw [flatL_len]; omega), List.getElem?_eq_getElem (by rw [flatL_len]; omega), ← h1, ← h2]
  exact ⟨rfl, rfl⟩

/-- The row, laid open. -/
theorem RChainAt.form {w : World} {base R : Nat} {M : List (Int × Int)} (h : RChainAt w base R M) : ∃ (q : Option Addr) (cap : Nat), w.cell? ⟨R, 0, none⟩ = some (.slice q M.length cap) ∧ w.ownsRow base 32 2 (.slice q M.length cap) M.length (M.flatMap encL) ∧ M.length ≤ cap ∧ cap ≤ maxLen ∧
    ((M = [] ∧ q = none ∧ cap = 0) ∨ ∃ g, q = some ⟨g, 0, none⟩ ∧ base ≤ g ∧ g < w.heap.size ∧ ∀ i (hi : i < M.length), w.cell? ⟨g, i * 2, none⟩ = some (.int .i64 (M[i]).1) ∧ w.cell? ⟨g, i * 2 + 1, none⟩ = some (.int .i64 (M[i]).2)) := by
  obtain ⟨v, hc, hrow⟩ := h.ex
  rcases hrow.2 with ⟨rfl, hz⟩ | ⟨g, cap, cur, rfl, hbase, hb, h1, h2, h3, h4⟩
  · have hM : M = [] := List.eq_nil_of_length_eq_zero hz
    subst hM
    exact ⟨none, 0, hc, hrow, Nat.le_refl _, Nat.zero_le _, .inl ⟨rfl, rfl, rfl⟩⟩
  · refine ⟨_, cap, hc, hrow, h1, h2, .inr ⟨g, rfl, hbase, (Array.getElem?_eq_some_iff.1 hb).1, fun i hi => ?_⟩⟩
    obtain ⟨e1, e2⟩ := flat_get M hi
    rw [← h4, List.getElem?_take_of_lt (by omega)] at e1 e2
    simp only [World.cell?, hb]
    exact ⟨by simpa using e1, by simpa using e2⟩

theorem len_small {M : List (Int × Int)} {cap : Nat} (h1 : M.length ≤ cap) (h2 : cap ≤ maxLen) : (M.length : Int) ≤ 9223372036854775806 ∨ M.length = 9223372036854775807 := by
  unfold maxLen at h2
  omega

set_option maxRecDepth 100000 in
set_option maxHeartbeats 4000000 in
theorem rcallee_some (base R : Nat) (M : List (Int × Int)) (a b : Int) (w : World) (h : RChainAt w base R M) (hn : (M.map Prod.fst).Nodup) (hm : (a, b) ∈ M) :
    Calls Try.prog 48 #[.pointer (some ⟨R, 0, none⟩), .int .i64 a] w fun r w' => r = .returned (.tuple #[.int .i64 b, .bool true]) ∧ w' = w := by
  obtain ⟨q, cap, hc, hrow, hcap, hcm, hf⟩ := h.form
  clear hrow
  go_enter Try.func48, Try.ntmps48
  go_wp2_with go_in
  go_loopw [6] (fun v6 wr => ∃ i : Nat, v6 = .int .i64 i ∧ i ≤ M.length ∧ (∀ j (hj : j < M.length), j < i → (M[j]).1 ≠ a) ∧ wr = w) (fun v6 _ => M.length - (match v6 with | .int _ k => k.toNat | _ => 0))
  case atStart => exact ⟨0, rfl, by omega, fun j hj h0 => by omega, rfl⟩
  case round =>
    obtain ⟨i, rfl, hi, hbef, rfl⟩ := hrel
    by_cases hlt : i < M.length
    · obtain ⟨g, rfl, hb, hgl, hcells⟩ : ∃ g, q = some ⟨g, 0, none⟩ ∧ base ≤ g ∧ g < wr.heap.size ∧ ∀ i (hi : i < M.length), wr.cell? ⟨g, i * 2, none⟩ = some (.int .i64 (M[i]).1) ∧ wr.cell? ⟨g, i * 2 + 1, none⟩ = some (.int .i64 (M[i]).2) := by
        rcases hf with ⟨rfl, _⟩ | h1
        · simp at hlt
        · exact h1
      have hxy := hcells i hlt
      have hmi : M[i] ∈ M := List.getElem_mem hlt
      have hlt' : (i : Int) < (M.length : Int) := by omega
      have hbig : (M.length : Int) ≤ 9223372036854775807 := by unfold maxLen at hcm; omega
      by_cases he : (M[i]).1 = a
      · have hb2 : (M[i]).2 = b := fst_one hn (a := a) (by rw [← he]; exact hmi) hm
        rw [he, hb2] at hxy
        obtain ⟨hx, hy⟩ := hxy
        clear hcells hbef hf
        go_wp2_with go_in
        go_ret2
        exact ⟨rfl, rfl⟩
      · have hbef' : ∀ j (hj : j < M.length), j < i + 1 → (M[j]).1 ≠ a := fun j hj hji => by
          by_cases e : j = i
          · subst e; exact he
          · exact hbef j hj (by omega)
        generalize (M[i]).1 = x at hxy he
        generalize (M[i]).2 = y at hxy
        obtain ⟨hx, hy⟩ := hxy
        clear hcells hbef hf hmi
        go_wp2_with go_in
        exact ⟨⟨i + 1, by simp, by omega, hbef', trivial⟩, by simp; omega⟩
    · exfalso
      obtain ⟨j, hj, e⟩ := List.getElem_of_mem hm
      exact hbef j hj (by omega) (by rw [e])

set_option maxRecDepth 100000 in
set_option maxHeartbeats 4000000 in
theorem rcallee_none (base R : Nat) (M : List (Int × Int)) (a : Int) (w : World) (h : RChainAt w base R M) (hm : a ∉ M.map Prod.fst) :
    Calls Try.prog 48 #[.pointer (some ⟨R, 0, none⟩), .int .i64 a] w fun r w' => r = .returned (.tuple #[.int .i64 0, .bool false]) ∧ w' = w := by
  obtain ⟨q, cap, hc, hrow, hcap, hcm, hf⟩ := h.form
  clear hrow
  go_enter Try.func48, Try.ntmps48
  go_wp2_with go_in
  go_loopw [6] (fun v6 wr => ∃ i : Nat, v6 = .int .i64 i ∧ i ≤ M.length ∧ wr = w) (fun v6 _ => M.length - (match v6 with | .int _ k => k.toNat | _ => 0))
  case atStart => exact ⟨0, rfl, by omega, rfl⟩
  case round =>
    obtain ⟨i, rfl, hi, rfl⟩ := hrel
    have hbig : (M.length : Int) ≤ 9223372036854775807 := by unfold maxLen at hcm; omega
    by_cases hlt : i < M.length
    · obtain ⟨g, rfl, hb, hgl, hcells⟩ : ∃ g, q = some ⟨g, 0, none⟩ ∧ base ≤ g ∧ g < wr.heap.size ∧ ∀ i (hi : i < M.length), wr.cell? ⟨g, i * 2, none⟩ = some (.int .i64 (M[i]).1) ∧ wr.cell? ⟨g, i * 2 + 1, none⟩ = some (.int .i64 (M[i]).2) := by
        rcases hf with ⟨rfl, _⟩ | h1
        · simp at hlt
        · exact h1
      have hxy := hcells i hlt
      have he : ¬ (M[i]).1 = a := fun e => hm (List.mem_map.2 ⟨_, List.getElem_mem hlt, e⟩)
      have hlt' : (i : Int) < (M.length : Int) := by omega
      generalize (M[i]).1 = x at hxy he
      generalize (M[i]).2 = y at hxy
      obtain ⟨hx, hy⟩ := hxy
      clear hcells hf
      go_wp2_with go_in
      exact ⟨⟨i + 1, by simp, by omega, trivial⟩, by simp; omega⟩
    · have hge : ¬ (i : Int) < (M.length : Int) := by omega
      clear hf
      go_wp2_with go_in
      go_ret2
      exact ⟨rfl, rfl⟩

set_option maxRecDepth 100000 in
set_option maxHeartbeats 4000000 in
theorem rcaller_some (base R : Nat) (M : List (Int × Int)) (a b : Int) (w : World) (h : RChainAt w base R M) (hn : (M.map Prod.snd).Nodup) (hm : (b, a) ∈ M) :
    Calls Try.prog 46 #[.pointer (some ⟨R, 0, none⟩), .int .i64 a] w fun r w' => r = .returned (.tuple #[.int .i64 b, .bool true]) ∧ w' = w := by
  obtain ⟨q, cap, hc, hrow, hcap, hcm, hf⟩ := h.form
  clear hrow
  go_enter Try.func46, Try.ntmps46
  go_wp2_with go_in
  go_loopw [6] (fun v6 wr => ∃ i : Nat, v6 = .int .i64 i ∧ i ≤ M.length ∧ (∀ j (hj : j < M.length), j < i → (M[j]).2 ≠ a) ∧ wr = w) (fun v6 _ => M.length - (match v6 with | .int _ k => k.toNat | _ => 0))
  case atStart => exact ⟨0, rfl, by omega, fun j hj h0 => by omega, rfl⟩
  case round =>
    obtain ⟨i, rfl, hi, hbef, rfl⟩ := hrel
    by_cases hlt : i < M.length
    · obtain ⟨g, rfl, hb, hgl, hcells⟩ : ∃ g, q = some ⟨g, 0, none⟩ ∧ base ≤ g ∧ g < wr.heap.size ∧ ∀ i (hi : i < M.length), wr.cell? ⟨g, i * 2, none⟩ = some (.int .i64 (M[i]).1) ∧ wr.cell? ⟨g, i * 2 + 1, none⟩ = some (.int .i64 (M[i]).2) := by
        rcases hf with ⟨rfl, _⟩ | h1
        · simp at hlt
        · exact h1
      have hxy := hcells i hlt
      have hmi : M[i] ∈ M := List.getElem_mem hlt
      have hlt' : (i : Int) < (M.length : Int) := by omega
      have hbig : (M.length : Int) ≤ 9223372036854775807 := by unfold maxLen at hcm; omega
      by_cases he : (M[i]).2 = a
      · have hb2 : (M[i]).1 = b := fst_one (L := back M) (by rw [back_fst]; exact hn) (a := a) (mem_back.2 (by rw [← he]; exact hmi)) (mem_back.2 hm)
        rw [he, hb2] at hxy
        obtain ⟨hx, hy⟩ := hxy
        clear hcells hbef hf
        go_wp2_with go_in
        go_ret2
        exact ⟨rfl, rfl⟩
      · have hbef' : ∀ j (hj : j < M.length), j < i + 1 → (M[j]).2 ≠ a := fun j hj hji => by
          by_cases e : j = i
          · subst e; exact he
          · exact hbef j hj (by omega)
        generalize (M[i]).2 = y at hxy he
        generalize (M[i]).1 = x at hxy
        obtain ⟨hx, hy⟩ := hxy
        clear hcells hbef hf hmi
        go_wp2_with go_in
        exact ⟨⟨i + 1, by simp, by omega, hbef', trivial⟩, by simp; omega⟩
    · exfalso
      obtain ⟨j, hj, e⟩ := List.getElem_of_mem hm
      exact hbef j hj (by omega) (by rw [e])

set_option maxRecDepth 100000 in
set_option maxHeartbeats 4000000 in
theorem rcaller_none (base R : Nat) (M : List (Int × Int)) (a : Int) (w : World) (h : RChainAt w base R M) (hm : a ∉ M.map Prod.snd) :
    Calls Try.prog 46 #[.pointer (some ⟨R, 0, none⟩), .int .i64 a] w fun r w' => r = .returned (.tuple #[.int .i64 0, .bool false]) ∧ w' = w := by
  obtain ⟨q, cap, hc, hrow, hcap, hcm, hf⟩ := h.form
  clear hrow
  go_enter Try.func46, Try.ntmps46
  go_wp2_with go_in
  go_loopw [6] (fun v6 wr => ∃ i : Nat, v6 = .int .i64 i ∧ i ≤ M.length ∧ wr = w) (fun v6 _ => M.length - (match v6 with | .int _ k => k.toNat | _ => 0))
  case atStart => exact ⟨0, rfl, by omega, rfl⟩
  case round =>
    obtain ⟨i, rfl, hi, rfl⟩ := hrel
    have hbig : (M.length : Int) ≤ 9223372036854775807 := by unfold maxLen at hcm; omega
    by_cases hlt : i < M.length
    · obtain ⟨g, rfl, hb, hgl, hcells⟩ : ∃ g, q = some ⟨g, 0, none⟩ ∧ base ≤ g ∧ g < wr.heap.size ∧ ∀ i (hi : i < M.length), wr.cell? ⟨g, i * 2, none⟩ = some (.int .i64 (M[i]).1) ∧ wr.cell? ⟨g, i * 2 + 1, none⟩ = some (.int .i64 (M[i]).2) := by
        rcases hf with ⟨rfl, _⟩ | h1
        · simp at hlt
        · exact h1
      have hxy := hcells i hlt
      have he : ¬ (M[i]).2 = a := fun e => hm (List.mem_map.2 ⟨_, List.getElem_mem hlt, e⟩)
      have hlt' : (i : Int) < (M.length : Int) := by omega
      generalize (M[i]).2 = y at hxy he
      generalize (M[i]).1 = x at hxy
      obtain ⟨hx, hy⟩ := hxy
      clear hcells hf
      go_wp2_with go_in
      exact ⟨⟨i + 1, by simp, by omega, trivial⟩, by simp; omega⟩
    · have hge : ¬ (i : Int) < (M.length : Int) := by omega
      clear hf
      go_wp2_with go_in
      go_ret2
      exact ⟨rfl, rfl⟩

theorem Ends.few {L : List (Int × Int)} (hn : (L.map Prod.fst).Nodup) {a : Int} {k : Nat} {z : Int} (h : Ends L a k z) : k ≤ L.length := by
  obtain ⟨vs, h1, h2, h3, _⟩ := h.road hn
  have := nodup_len vs (a :: L.map Prod.snd) h2 (fun v hv => by
    rcases h3 v hv with rfl | hm
    · simp
    · simp [hm])
  simp at this
  omega

set_option maxRecDepth 100000 in
set_option maxHeartbeats 4000000 in
theorem rlast_calls (base R : Nat) (M : List (Int × Int)) (a : Int) (k : Nat) (z : Int) (w : World) (h : RChainAt w base R M) (hn : (M.map Prod.fst).Nodup) (he : Ends M a k z) (hM : M.length ≤ 100000) :
    Calls Try.prog 51 #[.pointer (some ⟨R, 0, none⟩), .int .i64 a] w fun r w' => r = .returned (.int .i64 z) ∧ w' = w := by
  obtain ⟨q, cap, hc, hrow, hcap, hcm, hf⟩ := h.form
  clear hrow hf hcm hcap
  have hk := he.few hn
  go_enter Try.func51, Try.ntmps51
  go_wp2_with go_in
  go_loopw [1, 5] (fun v1 v5 wr => ∃ (i j : Nat) (x : Int), v1 = .int .i64 x ∧ v5 = .int .i64 i ∧ Ends M x j z ∧ i + j ≤ M.length ∧ wr = w) (fun _ v5 _ => M.length + 1 - (match v5 with | .int _ k => k.toNat | _ => 0))
  case atStart => exact ⟨0, k, a, rfl, rfl, he, by omega, rfl⟩
  case round =>
    obtain ⟨i, j, x, rfl, rfl, hex, hij, rfl⟩ := hrel
    have hle : (i : Int) ≤ (M.length : Int) := by omega
    have hsm : (M.length : Int) ≤ 100000 := by omega
    cases hex with
    | stop _ hnot =>
      have hC := rcallee_none base R M z wr h hnot
      go_wp2_with (first
        | (go_at_call 48; refine hC.mono ?_; rintro r w1 ⟨rfl, hw1⟩; rw [hw1]; clear hw1 w1)
        | go_in)
      go_ret
      exact ⟨rfl, rfl⟩
    | step _ b j z hm hr =>
      have hC := rcallee_some base R M x b wr h hn hm
      go_wp2_with (first
        | (go_at_call 48; refine hC.mono ?_; rintro r w1 ⟨rfl, hw1⟩; rw [hw1]; clear hw1 w1)
        | go_in)
      exact ⟨⟨i + 1, j, b, rfl, by simp, hr, by omega, trivial⟩, by simp; omega⟩

end Go.Proofs.Ytlgfopfibopcnaa
