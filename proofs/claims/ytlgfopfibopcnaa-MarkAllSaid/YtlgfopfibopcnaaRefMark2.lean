/-
  The reference's marks: Drop.
-/
import Derived.Test.YtlgfopfibopcnaaRefMark
namespace Go.Proofs.Ytlgfopfibopcnaa
open Go Go.RowKit Go.Maps Go.Am
set_option linter.unusedVariables false

theorem RMarksAt.stored {w w' : World} {base R : Nat} {g : Nat → Int} {L L' : List Int} {v : Value} (h : RMarksAt w base R g L) (hb : base ≤ w.heap.size) (hg : GrowBut w w' []) (hrow : w'.ownsRow w.heap.size 23 1 v L'.length (L'.map (Value.int .u64))) (hwf : ∀ x ∈ L', (Lit.int .u64 x).wf = true) (hnd : L'.Nodup) (hfew : L'.length ≤ 1000) :
    RMarksAt (w'.setCell ⟨R, 6, none⟩ v) base R g L' := by
  have hR := h.lt
  obtain ⟨v0, hc, _⟩ := h.ex
  have hc' := hg.cell hc (by simp)
  have hgs := GrowBut.setCell w' ⟨R, 6, none⟩ v
  refine ⟨fun i hi => ?_, fun i hi => ?_, ⟨v, cell_setCell_same hc', ?_⟩, by have := hg.size; simp; omega, h.low, hwf, hnd, hfew⟩
  · exact cell_setCell_off (hg.cell (h.c i hi) (by simp)) (by omega)
  · rw [frozen_setCell]
    exact hg.frozen hR (h.fz i hi) (by simp)
  · have h1 := hgs.row hrow (fun j hj hm => by have := (hrow.lt j hj).1; simp at hm; omega)
    refine ⟨h1.1, ?_⟩
    rcases h1.2 with h2 | ⟨r, cap, cur, e1, e2, e3⟩
    · exact .inl h2
    · exact .inr ⟨r, cap, cur, e1, by omega, e3⟩

/-- The row is the one that was, or a new one. -/
def RowNew (w w' : World) (R : Nat) : Prop := ∀ v j, w'.cell? ⟨R, 6, none⟩ = some v → v.ownBlock = some j → w.cell? ⟨R, 6, none⟩ = some v ∨ w.heap.size ≤ j

theorem RowNew.same {w w' : World} {base R : Nat} {g : Nat → Int} {L : List Int} (h : RMarksAt w base R g L) (hg : GrowBut w w' []) : RowNew w w' R := fun v j hv _ => by
  obtain ⟨v0, hc, _⟩ := h.ex
  have h1 := hg.cell hc (by simp)
  rw [h1] at hv
  cases hv
  exact .inl hc

theorem RowNew.stored {w0 w w' : World} {base R n : Nat} {g : Nat → Int} {L : List Int} {v : Value} {xs : List Value} (h : RMarksAt w base R g L) (hg : GrowBut w w' []) (hrow : w'.ownsRow w.heap.size 23 1 v n xs) (h0 : w0.heap.size ≤ w.heap.size) : RowNew w0 (w'.setCell ⟨R, 6, none⟩ v) R := fun u j hu hj => by
  obtain ⟨v0, hc, _⟩ := h.ex
  have h1 := cell_setCell_same (v := v) (hg.cell hc (by simp))
  rw [h1] at hu
  cases hu
  have := (hrow.lt j hj).1
  exact .inr (by omega)

/-- All but one. -/
def butM (L : List Int) (a : Int) : List Int := L.filter fun x => decide (x ≠ a)

theorem butM_take (L : List Int) (a : Int) {i : Nat} (hi : i < L.length) : butM (L.take (i + 1)) a = if L[i] = a then butM (L.take i) a else butM (L.take i) a ++ [L[i]] := by
  unfold butM
  rw [List.take_add_one, List.getElem?_eq_getElem hi, List.filter_append]
  by_cases h : L[i] = a <;> simp [h]

theorem butM_len (L : List Int) (a : Int) : (butM L a).length ≤ L.length := List.length_filter_le _ _

theorem butM_lt {L : List Int} {a : Int} (h : a ∈ L) : (butM L a).length < L.length := by
  have h1 := butM_len L a
  rcases Nat.lt_or_ge (butM L a).length L.length with h2 | h2
  · exact h2
  · exfalso
    have h3 : butM L a = L := List.filter_eq_self.2 (by
      unfold butM at h1 h2
      exact List.length_filter_eq_length_iff.1 (by omega))
    have h4 : a ∈ butM L a := by rw [h3]; exact h
    unfold butM at h4
    simp at h4

theorem butM_not {L : List Int} {a : Int} (h : a ∉ L) : butM L a = L := List.filter_eq_self.2 fun x hx => by
  have : x ≠ a := fun e => h (e ▸ hx)
  simpa using this

set_option maxRecDepth 100000 in
set_option maxHeartbeats 4000000 in
theorem rdrop_calls (base R : Nat) (g : Nat → Int) (L : List Int) (a : Int) (w : World) (h : RMarksAt w base R g L) (hb0 : base ≤ w.heap.size) :
    Calls Try.prog 23 #[.pointer (some ⟨R, 0, none⟩), .int .u64 a] w fun r w' => r = .returned (.bool (decide (a ∈ L))) ∧ RMarksAt w' base R g (butM L a) ∧ GrowBut w w' [R] ∧ RowNew w w' R := by
  obtain ⟨i0, hi0, hz0, hz1, hz2⟩ := info_parts infoM
  have hfew := h.few
  have hfz := h.fz 6 (by decide)
  have hRlt := h.lt
  obtain ⟨q, cap, hc, hrow, hcap, hcm, hf⟩ := h.form
  clear hrow
  go_enter Try.func23, Try.ntmps23
  go_wp2_with go_in
  go_loopw [5, 6] (fun v5 v6 wr => ∃ i : Nat, v6 = .int .i64 i ∧ i ≤ L.length ∧ wr.ownsRow w.heap.size 23 1 v5 (butM (L.take i) a).length ((butM (L.take i) a).map (Value.int .u64)) ∧ GrowBut w wr []) (fun _ v6 _ => L.length - (match v6 with | .int _ k => k.toNat | _ => 0))
  case atStart => exact ⟨0, rfl, by omega, World.ownsRow_nil _ _ _ _, .refl _ _⟩
  case round =>
    obtain ⟨i, rfl, hi, hrow, hG⟩ := hrel
    have hbig : (L.length : Int) ≤ 1000 := by omega
    have hcr := hG.cell hc (by simp)
    by_cases hlt : i < L.length
    · obtain ⟨r, rfl, hb, hgl, hcells⟩ : ∃ r, q = some ⟨r, 0, none⟩ ∧ base ≤ r ∧ r < w.heap.size ∧ ∀ i (hi : i < L.length), w.cell? ⟨r, i, none⟩ = some (.int .u64 L[i]) := by
        rcases hf with ⟨rfl, _⟩ | h1
        · simp at hlt
        · exact h1
      have hx := hG.cell (hcells i hlt) (by simp)
      have htk := butM_take L a hlt
      have hlen : (butM (L.take i) a).length ≤ 1000 := by
        have h1 := butM_len (L.take i) a
        have h2 : (L.take i).length ≤ L.length := by rw [List.length_take]; omega
        omega
      have hlt' : (i : Int) < (L.length : Int) := by omega
      have hsz := hG.size
      generalize L[i] = x at hx htk
      generalize hF : butM (L.take i) a = F at hrow htk hlen
      clear hcells hf hc hF
      by_cases hw : x = a
      · rw [if_pos hw] at htk
        subst hw
        go_wp2_with go_in
        exact ⟨⟨i + 1, by simp, by omega, by rw [htk]; exact hrow, hG⟩, by simp; omega⟩
      · rw [if_neg hw] at htk
        go_wp2_with (first
          | (at_builtin; refine wpList_append_own _ rfl _ _ 29 rfl w.heap.size 23 i0 (.int .u64 0) 1 8 Try.underlying29 hi0 hz0 hz1 hz2 rfl (by decide) _ _ _ rfl (hrow.alloc _) ⟨wr.heap.size, 0, none⟩ 1 1 [.int .u64 x] rfl rfl (cell_one_new _ _ _) (by simp [Value.oneCell']) (by unfold maxLen; omega) (by omega) (by simp; omega) ?_; intro v' w4 hown4 hg4 hnil4; go_frame)
          | go_in)
        refine ⟨⟨i + 1, by simp, by omega, by rw [htk]; simpa using hown4, (hG.trans (GrowBut.alloc _ _ _)).from (GrowBut.of_rowM hg4) (fun j hj => .inr (hrow.lt j (Option.mem_toList.1 hj)).1)⟩, by simp; omega⟩
    · obtain rfl : i = L.length := by omega
      have hge : ¬ (L.length : Int) < (L.length : Int) := by omega
      rw [List.take_length] at hrow
      have hlenF := butM_len L a
      have hfr := hG.frozen hRlt hfz (by simp)
      have hiff : Unit → ((butM L a).length < L.length ↔ a ∈ L) := fun _ => ⟨fun h1 => by
        apply Decidable.byContradiction
        intro hm
        rw [butM_not hm] at h1
        omega, butM_lt⟩
      have hfin : ∀ v, wr.ownsRow w.heap.size 23 1 v (butM L a).length ((butM L a).map (Value.int .u64)) → RMarksAt (wr.setCell ⟨R, 6, none⟩ v) base R g (butM L a) ∧ GrowBut w (wr.setCell ⟨R, 6, none⟩ v) [R] ∧ RowNew w (wr.setCell ⟨R, 6, none⟩ v) R := fun v hv =>
        ⟨h.stored hb0 hG hv (fun x hx => h.wf x (List.mem_filter.1 hx).1) (h.nodup.filter _) (by omega), (hG.mono (by simp)).trans (GrowBut.setCell _ _ _), RowNew.stored h hG hv (Nat.le_refl _)⟩
      clear hf hc
      have hform : (u5 = .slice none 0 0 ∧ (butM L a).length = 0) ∨ ∃ r' cap', u5 = .slice (some ⟨r', 0, none⟩) (butM L a).length cap' := by
        rcases hrow.2 with ⟨e, e2⟩ | ⟨r', cap', cur, e, _⟩
        · exact .inl ⟨e, e2⟩
        · exact .inr ⟨r', cap', e⟩
      rcases hform with ⟨rfl, hF0⟩ | ⟨r', cap', rfl⟩
      · rw [hF0] at hiff
        go_wp2_with go_in
        go_ret
        exact ⟨by simp; exact hiff (), hfin _ hrow⟩
      · go_wp2_with go_in
        go_ret
        exact ⟨by simp; exact hiff (), hfin _ hrow⟩

end Go.Proofs.Ytlgfopfibopcnaa
