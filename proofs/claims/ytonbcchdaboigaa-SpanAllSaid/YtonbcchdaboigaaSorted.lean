/-
  A map's keys, and slices.Sorted of them: contracts for the machine, out of the library's proved summaries.
-/
import Derived.Test.YtonbcchdaboigaaBase
import Derived.Test.YtonbcchdaboigaaAm29
import Derived.Shelf.SlIterI.Nil
import Derived.Shelf.SortM.Plain
import Derived.Shelf.SortM.SortNone
import Derived.Shelf.Lay
import Derived.Ground.GgzProg
import Derived.Ground.SlgmProg
namespace Go.Proofs.Ytonbcchdaboigaa
open Go Go.RowKit Go.Maps Go.Sort Go.Shelf Go.Am
set_option linter.unusedVariables false

shelf_lay_g SlLaysZI.n7 Ggz 7 at Try 119 as Try.keysP
shelf_lay_g SlLaysZI.n6 Ggz 6 at Try 105 as Try.sortedP
shelf_lay_g SlLaysM.n5 Slgm 5 at Try 73 as Try.sortP

theorem sorts (m : Nat) : AnyZI.SortsIn Try.prog Try.sortedP_ren Fence.wide m :=
  ⟨fun blk off cap ss W hH hblk hsz => callsIn_wide.2 (AnyM.slices_Sort_int Try.sortP blk off cap ss W hH hblk hsz),
   fun p cap W => callsIn_wide.2 (AnyM.slices_Sort_int_none Try.sortP p cap W)⟩

theorem sorted_calls {H : Type} (Bm b nn : Nat) (D0 : DataW H) (R : Value → Option (DataW H × List MemPlace)) (w : World) (hBm : Bm < w.heap.size) (hm : w.cell? ⟨Bm, 0, none⟩ = some (.map (some b))) (hown : w.ownsMap Try.prog 3 R b nn D0)
    (hmax : Maps.size D0 ≤ maxLen) (hbytes : Maps.size D0 * 8 ≤ 140737488355328) :
    Calls Try.prog 105 #[.func (.func 143) #[] #[.pointer (some ⟨Bm, 0, none⟩)]] w fun e w' => ∃ (v : Value) (ss : List Int), e = .returned v ∧ ss.Perm (intKeys D0) ∧
      w'.ownsRow w.heap.size 3 1 v ss.length ((ss.mergeSort (fun x y => decide (x ≤ y))).map encZ) ∧ (v = .slice none 0 0 ↔ ss = []) ∧ Below w.heap.size w w' := by
  have hseq : SeqGives Fence.wide 2 Try.prog 143 #[.pointer (some ⟨Bm, 0, none⟩)] encZ (fun ss => ss.Perm (intKeys D0)) (Maps.size D0) w :=
    AnyZI.keys_gives (ρ := Try.keysP_ren) { Try.keysP with } Fence.wide _ trivial rfl (by omega) Bm b nn D0 w hBm hm hown
  exact (callsIn_wide (n := 5)).1 (AnyZI.sorted_in Try.sortedP Fence.wide 5 trivial trivial trivial trivial rfl (by omega) (sorts _) (enters_of Try.func73 (by kernel_rfl) rfl) 143 #[.pointer (some ⟨Bm, 0, none⟩)] trivial (enters_of Try.func143 (by kernel_rfl) rfl) _ _ hmax hbytes w hseq)

theorem keys_calls (mb : Option Nat) (w : World) : Calls Try.prog 119 #[.map mb] w fun e w' => e = .returned (.func (.func 143) #[] #[.pointer (some ⟨w.heap.size, 0, none⟩)]) ∧ w' = w.alloc (.cells #[.map mb] 119) :=
  (callsIn_wide (n := 5)).1 (AnyZI.keys_in Try.keysP Fence.wide 5 trivial rfl mb w)

/-! ### For the machine -/
noncomputable def keysA : List AVal → AState → R (AVal × AState)
  | [.map m], s => do
    let s1 ← s.alloc (.cells [.map m] true)
    .ok (.clo 143 [.ptr s.next 0], s1)
  | _, _ => .fail "Keys"

noncomputable def sortedA : List AVal → AState → R (AVal × AState)
  | [.clo f [.ptr bx 0]], s => bif Nat.beq f 143 then do
      match ← s.get bx with
      | .cells [.map m] true => match ← s.get m with
        | .map es c => match fitK .i64 es c with
          | some l => match isort l with
            | [] => .ok (.lit (.slice none 0 0), s)
            | a :: r => do
              let s1 ← s.alloc (.cells ((a :: r).map fun a => .lit (.int .i64 a)) true)
              .ok (.slice s.next 0 (a :: r).length (.grown 1), s1)
          | none => .fail "Sorted: keys"
        | _ => .fail "Sorted"
      | _ => .fail "Sorted"
    else .fail "Sorted"
  | _, _ => .fail "Sorted"

theorem keysA_ok {σ : Syms} {N0 : Nat} {w0 : World} : PrimOk Try.prog σ N0 w0 119 keysA := by
  have inv : ∀ args s v s', keysA args s = .ok (v, s') → ∃ m, args = [.map m] ∧ s.alloc (.cells [.map m] true) = .ok s' ∧ v = .clo 143 [.ptr s.next 0] := by
    intro args s v s' h
    unfold keysA at h
    split at h
    · replace h := R.bind_ok' h
      obtain ⟨s1, h1, h⟩ := h
      cases h
      exact ⟨_, rfl, h1, rfl⟩
    · cases h
  refine ⟨fun args s v s' h => ?_, fun args s v s' h ρ w us hw hf hv => ?_⟩
  · obtain ⟨m, _, h1, _⟩ := inv _ _ _ _ h
    exact Abs.alloc h1
  · obtain ⟨m, rfl, h1, rfl⟩ := inv _ _ _ _ h
    obtain ⟨u1, r1, e1, ⟨L, hL, rfl⟩, rfl⟩ := hv
    have hus : us = #[.map (some L.blk)] := by apply Array.toList_inj.1; rw [e1]
    subst hus
    refine (keys_calls (some L.blk) w).mono fun e w' ⟨he, hw'⟩ => ?_
    obtain ⟨ρ', h3, h4⟩ := newCells_ok hw h1 hf #[.map (some L.blk)] 119 ⟨_, _, rfl, ⟨L, hL, rfl⟩, rfl⟩
    refine ⟨_, ρ', he, ⟨_, rfl, _, _, rfl, ⟨_, h3, rfl⟩, rfl⟩, ?_⟩
    rw [hw']
    exact h4

theorem sortedA_ok {σ : Syms} {N0 : Nat} {w0 : World} : PrimOk Try.prog σ N0 w0 105 sortedA := by
  have inv : ∀ args s v s', sortedA args s = .ok (v, s') → ∃ bx m es c l, args = [.clo 143 [.ptr bx 0]] ∧ s.heap.get bx = some (.cells [.map m] true) ∧ s.heap.get m = some (.map es c) ∧ fitK .i64 es c = some l ∧
      ((isort l = [] ∧ v = .lit (.slice none 0 0) ∧ s' = s) ∨ (isort l ≠ [] ∧ s.alloc (.cells ((isort l).map fun a => .lit (.int .i64 a)) true) = .ok s' ∧ v = .slice s.next 0 (isort l).length (.grown 1))) := by
    intro args s v s' h
    unfold sortedA at h
    split at h
    · rename_i s1 f bx
      cases hq : Nat.beq f 143 with
      | false => rw [hq] at h; cases h
      | true =>
        rw [hq, cond_true] at h
        have := Nat.eq_of_beq_eq_true hq
        subst this
        replace h := R.bind_ok' h
        obtain ⟨o1, h1, h⟩ := h
        split at h
        · rename_i m
          replace h := R.bind_ok' h
          obtain ⟨o2, h2, h⟩ := h
          split at h
          · rename_i es c
            split at h
            · rename_i l hl
              split at h
              · rename_i hi
                cases h
                exact ⟨bx, m, es, c, l, rfl, get_ok h1, get_ok h2, hl, .inl ⟨hi, rfl, rfl⟩⟩
              · rename_i a r hi
                replace h := R.bind_ok' h
                obtain ⟨s2, h3, h⟩ := h
                cases h
                exact ⟨bx, m, es, c, l, rfl, get_ok h1, get_ok h2, hl, .inr ⟨by rw [hi]; simp, by rw [hi]; exact h3, by rw [hi]⟩⟩
            · cases h
          · cases h
        · cases h
    · cases h
  refine ⟨fun args s v s' h => ?_, fun args s v s' h ρ w us hw hf hv => ?_⟩
  · obtain ⟨bx, m, es, c, l, _, _, _, _, ⟨_, _, rfl⟩ | ⟨_, h1, _⟩⟩ := inv _ _ _ _ h
    · exact Abs.refl _
    · exact Abs.alloc h1
  · obtain ⟨bx, m, es, c, l, rfl, g1, g2, g3, hr⟩ := inv _ _ _ _ h
    obtain ⟨u1, r1, e1, ⟨ws, rfl, u2, r2, e2, ⟨L, hL, rfl⟩, e3⟩, rfl⟩ := hv
    have hws : ws = #[.pointer (some ⟨L.blk, L.off + 0, none⟩)] := by apply Array.toList_inj.1; rw [e2, e3]
    subst hws
    have hus : us = #[.func (.func 143) #[] #[.pointer (some ⟨L.blk, L.off + 0, none⟩)]] := by apply Array.toList_inj.1; rw [e1]
    subst hus
    obtain ⟨k1, _, k3⟩ := hw.heap _ _ g1 L hL
    obtain ⟨hoff, _, _⟩ := k3 rfl
    obtain ⟨u, hu, M, hM, rfl⟩ := k1 0 (.map m) rfl
    rw [hoff] at hu ⊢
    obtain ⟨ms, hm1, hm2⟩ := hw.heap _ _ g2 M hM
    obtain ⟨D0, hown, hperm, hsz, hle⟩ := fitK_ok (H := Unit) (P := Try.prog) (k := 3) Try.underlying3 g3 hm1 hm2
    refine (sorted_calls L.blk M.blk es.length D0 _ w (hw.rng _ _ hL).1 hu hown (by have : maxLen = 9223372036854775807 := rfl; omega) (by omega)).mono fun e w' ⟨v1, ss, he, hss, hrow, hnil, hb⟩ => ?_
    have hsort : ss.mergeSort (fun x y => decide (x ≤ y)) = isort l := isort_eq (hss.trans hperm.symm)
    have hlen : ss.length = (isort l).length := by rw [← hsort, List.length_mergeSort]
    rw [hsort] at hrow
    rcases hr with ⟨hi, rfl, rfl⟩ | ⟨hi, ha, rfl⟩
    · have : ss = [] := by
        rw [hi] at hlen
        exact List.length_eq_zero_iff.1 hlen
      have := hnil.2 this
      subst this
      exact ⟨_, ρ, he, ⟨rfl, rfl⟩, Post.wider hw hb.size hb.block ⟨hb.os, hb.tape, hb.output⟩⟩
    · rcases hrow.2 with ⟨hv1, hz⟩ | ⟨g, cap, cur, hv1, hbase, hgb, r1, r2, r3, r4⟩
      · exfalso
        have := hnil.1 hv1
        rw [this] at hlen
        exact hi (List.length_eq_zero_iff.1 hlen.symm)
      · subst hv1
        obtain ⟨ρ', h5, h6⟩ := Post.newRow (e := 3) (q := .i64) (cap := cap) hw hb ha hf hbase hgb (by omega) (by omega) (by rw [hlen, Nat.mul_one] at r4; exact r4)
        rw [← hlen] at h5
        exact ⟨_, ρ', he, by rw [← hlen]; exact h5, h6⟩

/-- The two of them, beside others. -/
noncomputable def sortedPrims : Prims := fun f => bif Nat.beq f 105 then some sortedA else bif Nat.beq f 119 then some keysA else none

theorem sortedPrims_ok {σ : Syms} {N0 : Nat} {w0 : World} : ∀ f p, sortedPrims f = some p → PrimOk Try.prog σ N0 w0 f p := by
  intro f p h
  unfold sortedPrims at h
  cases hq : Nat.beq f 105 with
  | true =>
    rw [hq, cond_true] at h
    have := Nat.eq_of_beq_eq_true hq
    subst this
    cases h
    exact sortedA_ok
  | false =>
    rw [hq, cond_false] at h
    cases hq2 : Nat.beq f 119 with
    | true =>
      rw [hq2, cond_true] at h
      have := Nat.eq_of_beq_eq_true hq2
      subst this
      cases h
      exact keysA_ok
    | false => rw [hq2] at h; cases h

end Go.Proofs.Ytonbcchdaboigaa
