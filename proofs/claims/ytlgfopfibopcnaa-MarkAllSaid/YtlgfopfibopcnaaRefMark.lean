/-
  The reference's marks: a row of those that are there, in the order in which they were given: Sender, Is, Of, Drop.
-/
import Derived.Test.YtlgfopfibopcnaaMarkS
import Derived.Deep.Cut
namespace Go.Proofs.Ytlgfopfibopcnaa
open Go Go.RowKit Go.Maps Go.Am
set_option linter.unusedVariables false

/-- The reference's marks are at R: given to each; those that are there, in order. -/
structure RMarksAt (w : World) (base R : Nat) (g : Nat → Int) (L : List Int) : Prop where
  c : ∀ i, i < 6 → w.cell? ⟨R, i, none⟩ = some (.int .u64 (g i))
  fz : ∀ i, i < 7 → w.frozen? ⟨R, i, none⟩ = false
  ex : ∃ v, w.cell? ⟨R, 6, none⟩ = some v ∧ w.ownsRow base 23 1 v L.length (L.map (Value.int .u64))
  lt : R < w.heap.size
  low : R < base
  wf : ∀ x ∈ L, (Lit.int .u64 x).wf = true
  nodup : L.Nodup
  few : L.length ≤ 1000

theorem RMarksAt.kept {w w' : World} {base R : Nat} {g : Nat → Int} {L : List Int} {l : List Nat} (h : RMarksAt w base R g L) (hg : GrowBut w w' l) (hR : R ∉ l) (hl : ∀ x ∈ l, x < base) : RMarksAt w' base R g L := by
  obtain ⟨v, hc, hrow⟩ := h.ex
  exact ⟨fun i hi => hg.cell (h.c i hi) hR, fun i hi => hg.frozen h.lt (h.fz i hi) hR, ⟨v, hg.cell hc hR, hg.row hrow (fun j hj hm => by have h1 := (hrow.lt j hj).1; have := hl j hm; omega)⟩, Nat.lt_of_lt_of_le h.lt hg.size, h.low, h.wf, h.nodup, h.few⟩

/-- The row, laid open. -/
theorem RMarksAt.form {w : World} {base R : Nat} {g : Nat → Int} {L : List Int} (h : RMarksAt w base R g L) : ∃ (q : Option Addr) (cap : Nat), w.cell? ⟨R, 6, none⟩ = some (.slice q L.length cap) ∧ w.ownsRow base 23 1 (.slice q L.length cap) L.length (L.map (Value.int .u64)) ∧ L.length ≤ cap ∧ cap ≤ maxLen ∧
    ((L = [] ∧ q = none ∧ cap = 0) ∨ ∃ r, q = some ⟨r, 0, none⟩ ∧ base ≤ r ∧ r < w.heap.size ∧ ∀ i (hi : i < L.length), w.cell? ⟨r, i, none⟩ = some (.int .u64 L[i])) := by
  obtain ⟨v, hc, hrow⟩ := h.ex
  rcases hrow.2 with ⟨rfl, hz⟩ | ⟨r, cap, cur, rfl, hbase, hb, h1, h2, h3, h4⟩
  · have hL : L = [] := List.eq_nil_of_length_eq_zero hz
    subst hL
    exact ⟨none, 0, hc, hrow, Nat.le_refl _, Nat.zero_le _, .inl ⟨rfl, rfl, rfl⟩⟩
  · refine ⟨_, cap, hc, hrow, h1, h2, .inr ⟨r, rfl, hbase, (Array.getElem?_eq_some_iff.1 hb).1, fun i hi => ?_⟩⟩
    have h5 : (cur.toList.take (L.length * 1))[i]? = (L.map (Value.int .u64))[i]? := by rw [h4]
    rw [List.getElem?_take_of_lt (by omega), List.getElem?_map, List.getElem?_eq_getElem hi] at h5
    simp only [World.cell?, hb]
    simpa using h5

theorem rsender_calls (x : Int) (hx : (Lit.int .u64 x).wf = true) (w : World) : Calls Try.prog 29 #[.int .u64 x] w fun e w' => e = .returned (.int .i64 (whose x)) ∧ w' = w := by
  have h := wf_u64 hx
  go_enter Try.func29, Try.ntmps29
  go_wp2
  go_ret
  exact ⟨rfl, rfl⟩

set_option maxRecDepth 100000 in
set_option maxHeartbeats 4000000 in
theorem ris_calls (base R : Nat) (g : Nat → Int) (L : List Int) (a : Int) (w : World) (h : RMarksAt w base R g L) :
    Calls Try.prog 27 #[.pointer (some ⟨R, 0, none⟩), .int .u64 a] w fun r w' => r = .returned (.bool (decide (a ∈ L))) ∧ w' = w := by
  have hfew := h.few
  obtain ⟨q, cap, hc, hrow, hcap, hcm, hf⟩ := h.form
  clear hrow
  go_enter Try.func27, Try.ntmps27
  go_wp2_with go_in
  go_loopw [5] (fun v5 wr => ∃ i : Nat, v5 = .int .i64 i ∧ i ≤ L.length ∧ (∀ j (hj : j < L.length), j < i → L[j] ≠ a) ∧ wr = w) (fun v5 _ => L.length - (match v5 with | .int _ k => k.toNat | _ => 0))
  case atStart => exact ⟨0, rfl, by omega, fun j hj h0 => by omega, rfl⟩
  case round =>
    obtain ⟨i, rfl, hi, hbef, rfl⟩ := hrel
    have hbig : (L.length : Int) ≤ 1000 := by omega
    by_cases hlt : i < L.length
    · obtain ⟨r, rfl, hb, hgl, hcells⟩ : ∃ r, q = some ⟨r, 0, none⟩ ∧ base ≤ r ∧ r < wr.heap.size ∧ ∀ i (hi : i < L.length), wr.cell? ⟨r, i, none⟩ = some (.int .u64 L[i]) := by
        rcases hf with ⟨rfl, _⟩ | h1
        · simp at hlt
        · exact h1
      have hx := hcells i hlt
      have hmi : L[i] ∈ L := List.getElem_mem hlt
      have hlt' : (i : Int) < (L.length : Int) := by omega
      by_cases he : L[i] = a
      · have hin : decide (a ∈ L) = true := decide_eq_true (he ▸ hmi)
        rw [he] at hx
        clear hcells hbef hf hmi he
        go_wp2_with go_in
        go_ret
        exact ⟨by simpa using hin, rfl⟩
      · have hbef' : ∀ j (hj : j < L.length), j < i + 1 → L[j] ≠ a := fun j hj hji => by
          by_cases e : j = i
          · subst e; exact he
          · exact hbef j hj (by omega)
        generalize L[i] = x at hx he
        clear hcells hbef hf hmi
        go_wp2_with go_in
        exact ⟨⟨i + 1, by simp, by omega, hbef', trivial⟩, by simp; omega⟩
    · have hge : ¬ (i : Int) < (L.length : Int) := by omega
      have hno : a ∉ L := fun hm => by
        obtain ⟨j, hj, e⟩ := List.getElem_of_mem hm
        exact hbef j hj (by omega) e
      clear hf hbef
      go_wp2_with go_in
      go_ret
      exact ⟨by simp, rfl⟩

theorem infoM : (Try.prog.info? 23).map (fun i => (i.zero, i.size, i.bytes)) = some (some (.int .u64 0), 1, 8) := by kernel_rfl

theorem ofWho_take (L : List Int) (s : Int) {i : Nat} (hi : i < L.length) : ofWho (L.take (i + 1)) s = if whose L[i] = s then ofWho (L.take i) s ++ [L[i]] else ofWho (L.take i) s := by
  unfold ofWho
  rw [List.take_add_one, List.getElem?_eq_getElem hi, List.filter_append]
  by_cases h : whose L[i] = s <;> simp [h]

theorem GrowBut.of_rowM {a b : World} {o : Option Nat} (h : a.grownBy b o) : GrowBut a b o.toList :=
  ⟨h.os, h.tape, h.output, h.size, fun j hj hn => h.block j hj (fun e => hn (by rw [← e]; simp))⟩

set_option maxRecDepth 100000 in
set_option maxHeartbeats 4000000 in
theorem rofM_calls (base R : Nat) (g : Nat → Int) (L : List Int) (s : Int) (w : World) (h : RMarksAt w base R g L) :
    Calls Try.prog 25 #[.pointer (some ⟨R, 0, none⟩), .int .i64 s] w fun r w' => ∃ v, r = .returned v ∧ w'.ownsRow w.heap.size 23 1 v (ofWho L s).length ((ofWho L s).map (Value.int .u64)) ∧ GrowBut w w' [] := by
  obtain ⟨i0, hi0, hz0, hz1, hz2⟩ := info_parts infoM
  have hfew := h.few
  have hwf := h.wf
  obtain ⟨q, cap, hc, hrow, hcap, hcm, hf⟩ := h.form
  clear hrow
  go_enter Try.func25, Try.ntmps25
  go_wp2_with go_in
  go_loopw [5, 6] (fun v5 v6 wr => ∃ i : Nat, v6 = .int .i64 i ∧ i ≤ L.length ∧ wr.ownsRow w.heap.size 23 1 v5 (ofWho (L.take i) s).length ((ofWho (L.take i) s).map (Value.int .u64)) ∧ GrowBut w wr []) (fun _ v6 _ => L.length - (match v6 with | .int _ k => k.toNat | _ => 0))
  case atStart => exact ⟨0, rfl, by omega, World.ownsRow_nil _ _ _ _, .refl _ _⟩
  case round =>
    obtain ⟨i, rfl, hi, hrow, hG⟩ := hrel
    have hbig : (L.length : Int) ≤ 1000 := by omega
    have hcr := hG.cell hc (by simp)
    by_cases hlt : i < L.length
    · obtain ⟨r, rfl, hb, hgl, hcells⟩ : ∃ r, q = some ⟨r, 0, none⟩ ∧ base ≤ r ∧ r < w.heap.size ∧ ∀ i (hi : i < L.length), w.cell? ⟨r, i, none⟩ = some (.int .u64 L[i]) := by
        rcases hf with ⟨rfl, _⟩ | h1
        · simp at hlt
        · exact h1
      have hx := hG.cell (hcells i hlt) (by simp)
      have htk := ofWho_take L s hlt
      have hsd := fun W => rsender_calls L[i] (hwf _ (List.getElem_mem hlt)) W
      have hlen : (ofWho (L.take i) s).length ≤ 1000 := by
        have h1 := List.length_filter_le (fun x => decide (whose x = s)) (L.take i)
        have h2 : (L.take i).length ≤ L.length := by rw [List.length_take]; omega
        unfold ofWho
        omega
      have hlt' : (i : Int) < (L.length : Int) := by omega
      have hsz := hG.size
      generalize L[i] = x at hx htk hsd
      generalize hF : ofWho (L.take i) s = F at hrow htk hlen
      clear hcells hf hc hF
      by_cases hw : whose x = s
      · rw [if_pos hw] at htk
        have hws : (whose x == s) = true := by simp [hw]
        generalize whose x = sx at hsd hws
        clear hw
        go_wp2_with (first
          | (go_at_call 29; refine (hsd _).mono ?_; rintro e w9 ⟨rfl, hw9⟩; rw [hw9]; clear hw9 w9)
          | (at_builtin; refine wpList_append_own _ rfl _ _ 29 rfl w.heap.size 23 i0 (.int .u64 0) 1 8 Try.underlying29 hi0 hz0 hz1 hz2 rfl (by decide) _ _ _ rfl (hrow.alloc _) ⟨wr.heap.size, 0, none⟩ 1 1 [.int .u64 x] rfl rfl (cell_one_new _ _ _) (by simp [Value.oneCell']) (by unfold maxLen; omega) (by omega) (by simp; omega) ?_; intro v' w4 hown4 hg4 hnil4; go_frame)
          | go_in)
        refine ⟨⟨i + 1, by simp, by omega, by rw [htk]; simpa using hown4, (hG.trans (GrowBut.alloc _ _ _)).from (GrowBut.of_rowM hg4) (fun j hj => .inr (hrow.lt j (Option.mem_toList.1 hj)).1)⟩, by simp; omega⟩
      · rw [if_neg hw] at htk
        have hws : (whose x == s) = false := by simp [hw]
        generalize whose x = sx at hsd hws
        clear hw
        go_wp2_with (first
          | (go_at_call 29; refine (hsd _).mono ?_; rintro e w9 ⟨rfl, hw9⟩; rw [hw9]; clear hw9 w9)
          | go_in)
        exact ⟨⟨i + 1, by simp, by omega, by rw [htk]; exact hrow, hG⟩, by simp; omega⟩
    · obtain rfl : i = L.length := by omega
      have hge : ¬ (L.length : Int) < (L.length : Int) := by omega
      rw [List.take_length] at hrow
      clear hf
      go_wp2_with go_in
      go_ret
      exact ⟨_, rfl, hrow, hG⟩

end Go.Proofs.Ytlgfopfibopcnaa
