/-
  slices.Sorted of maps.Keys at map[int]api.Regs: for the machine; and begun of package bank.
-/
import Derived.Test.YtlgfopfibopcnaaBankC
import Derived.Test.YtlgfopfibopcnaaExplore
namespace Go.Proofs.Ytlgfopfibopcnaa
open Go Go.RowKit Go.Maps Go.Sort Go.Shelf Go.Am
set_option linter.unusedVariables false

/-! ### For the machine -/
noncomputable def keysAB : List AVal → AState → R (AVal × AState)
  | [.map m], s => do
    let s1 ← s.alloc (.cells [.map m] true)
    .ok (.clo 221 [.ptr s.next 0], s1)
  | _, _ => .fail "Keys"

noncomputable def sortedAB : List AVal → AState → R (AVal × AState)
  | [.clo f [.ptr bx 0]], s => bif Nat.beq f 221 then do
      match ← s.get bx with
      | .cells [.map m] true => match ← s.get m with
        | .map es c => match fitK .i64 es c with
          | some l => match isort l with
            | [] => .ok (.lit (.slice none 0 0), s)
            | a :: r => do
              let s1 ← s.alloc (.cells ((a :: r).map fun a => .lit (.int .i64 a)) true)
              .ok (.slice s.next 0 (a :: r).length (.grown 1), s1)
          | none => .fail "Sorted: keys"
        | _ => .fail "Sorted"
      | _ => .fail "Sorted"
    else .fail "Sorted"
  | _, _ => .fail "Sorted"

theorem keysAB_ok {σ : Syms} {N0 : Nat} {w0 : World} : PrimOk Try.prog σ N0 w0 156 keysAB := by
  have inv : ∀ args s v s', keysAB args s = .ok (v, s') → ∃ m, args = [.map m] ∧ s.alloc (.cells [.map m] true) = .ok s' ∧ v = .clo 221 [.ptr s.next 0] := by
    intro args s v s' h
    unfold keysAB at h
    split at h
    · replace h := R.bind_ok' h
      obtain ⟨s1, h1, h⟩ := h
      cases h
      exact ⟨_, rfl, h1, rfl⟩
    · cases h
  refine ⟨fun args s v s' h => ?_, fun args s v s' h ρ w us hw hf hv => ?_⟩
  · obtain ⟨m, _, h1, _⟩ := inv _ _ _ _ h
    exact Abs.alloc h1
  · obtain ⟨m, rfl, h1, rfl⟩ := inv _ _ _ _ h
    obtain ⟨u1, r1, e1, ⟨L, hL, rfl⟩, rfl⟩ := hv
    have hus : us = #[.map (some L.blk)] := by apply Array.toList_inj.1; rw [e1]
    subst hus
    refine (keys_callsB (some L.blk) w).mono fun e w' ⟨he, hw'⟩ => ?_
    obtain ⟨ρ', h3, h4⟩ := newCells_ok hw h1 hf #[.map (some L.blk)] 44 ⟨_, _, rfl, ⟨L, hL, rfl⟩, rfl⟩
    refine ⟨_, ρ', he, ⟨_, rfl, _, _, rfl, ⟨_, h3, rfl⟩, rfl⟩, ?_⟩
    rw [hw']
    exact h4

theorem sortedAB_ok {σ : Syms} {N0 : Nat} {w0 : World} : PrimOk Try.prog σ N0 w0 155 sortedAB := by
  have inv : ∀ args s v s', sortedAB args s = .ok (v, s') → ∃ bx m es c l, args = [.clo 221 [.ptr bx 0]] ∧ s.heap.get bx = some (.cells [.map m] true) ∧ s.heap.get m = some (.map es c) ∧ fitK .i64 es c = some l ∧
      ((isort l = [] ∧ v = .lit (.slice none 0 0) ∧ s' = s) ∨ (isort l ≠ [] ∧ s.alloc (.cells ((isort l).map fun a => .lit (.int .i64 a)) true) = .ok s' ∧ v = .slice s.next 0 (isort l).length (.grown 1))) := by
    intro args s v s' h
    unfold sortedAB at h
    split at h
    · rename_i s1 f bx
      cases hq : Nat.beq f 221 with
      | false => rw [hq] at h; cases h
      | true =>
        rw [hq, cond_true] at h
        have := Nat.eq_of_beq_eq_true hq
        subst this
        replace h := R.bind_ok' h
        obtain ⟨o1, h1, h⟩ := h
        split at h
        · rename_i m
          replace h := R.bind_ok' h
          obtain ⟨o2, h2, h⟩ := h
          split at h
          · rename_i es c
            split at h
            · rename_i l hl
              split at h
              · rename_i hi
                cases h
                exact ⟨bx, m, es, c, l, rfl, get_ok h1, get_ok h2, hl, .inl ⟨hi, rfl, rfl⟩⟩
              · rename_i a r hi
                replace h := R.bind_ok' h
                obtain ⟨s2, h3, h⟩ := h
                cases h
                exact ⟨bx, m, es, c, l, rfl, get_ok h1, get_ok h2, hl, .inr ⟨by rw [hi]; simp, by rw [hi]; exact h3, by rw [hi]⟩⟩
            · cases h
          · cases h
        · cases h
    · cases h
  refine ⟨fun args s v s' h => ?_, fun args s v s' h ρ w us hw hf hv => ?_⟩
  · obtain ⟨bx, m, es, c, l, _, _, _, _, ⟨_, _, rfl⟩ | ⟨_, h1, _⟩⟩ := inv _ _ _ _ h
    · exact Abs.refl _
    · exact Abs.alloc h1
  · obtain ⟨bx, m, es, c, l, rfl, g1, g2, g3, hr⟩ := inv _ _ _ _ h
    obtain ⟨u1, r1, e1, ⟨ws, rfl, u2, r2, e2, ⟨L, hL, rfl⟩, e3⟩, rfl⟩ := hv
    have hws : ws = #[.pointer (some ⟨L.blk, L.off + 0, none⟩)] := by apply Array.toList_inj.1; rw [e2, e3]
    subst hws
    have hus : us = #[.func (.func 221) #[] #[.pointer (some ⟨L.blk, L.off + 0, none⟩)]] := by apply Array.toList_inj.1; rw [e1]
    subst hus
    obtain ⟨k1, _, k3⟩ := hw.heap _ _ g1 L hL
    obtain ⟨hoff, _, _⟩ := k3 rfl
    obtain ⟨u, hu, M, hM, rfl⟩ := k1 0 (.map m) rfl
    rw [hoff] at hu ⊢
    obtain ⟨ms, hm1, hm2⟩ := hw.heap _ _ g2 M hM
    obtain ⟨D0, hown, hperm, hsz, hle⟩ := fitK_ok (H := Unit) (P := Try.prog) (k := 3) Try.underlying3 g3 hm1 hm2
    refine (sorted_callsB L.blk M.blk es.length D0 _ w (hw.rng _ _ hL).1 hu hown (by have : maxLen = 9223372036854775807 := rfl; omega) (by omega)).mono fun e w' ⟨v1, ss, he, hss, hrow, hnil, hb⟩ => ?_
    have hsort : ss.mergeSort (fun x y => decide (x ≤ y)) = isort l := isort_eq (hss.trans hperm.symm)
    have hlen : ss.length = (isort l).length := by rw [← hsort, List.length_mergeSort]
    rw [hsort] at hrow
    rcases hr with ⟨hi, rfl, rfl⟩ | ⟨hi, ha, rfl⟩
    · have : ss = [] := by
        rw [hi] at hlen
        exact List.length_eq_zero_iff.1 hlen
      have := hnil.2 this
      subst this
      exact ⟨_, ρ, he, ⟨rfl, rfl⟩, Post.wider hw hb.size hb.block ⟨hb.os, hb.tape, hb.output⟩⟩
    · rcases hrow.2 with ⟨hv1, hz⟩ | ⟨g, cap, cur, hv1, hbase, hgb, r1, r2, r3, r4⟩
      · exfalso
        have := hnil.1 hv1
        rw [this] at hlen
        exact hi (List.length_eq_zero_iff.1 hlen.symm)
      · subst hv1
        obtain ⟨ρ', h5, h6⟩ := Post.newRow (e := 3) (q := .i64) (cap := cap) hw hb ha hf hbase hgb (by omega) (by omega) (by rw [hlen, Nat.mul_one] at r4; exact r4)
        rw [← hlen] at h5
        exact ⟨_, ρ', he, by rw [← hlen]; exact h5, h6⟩

/-- The two of them, beside others. -/
noncomputable def sortedPrimsB : Prims := fun f => bif Nat.beq f 155 then some sortedAB else bif Nat.beq f 156 then some keysAB else none

theorem sortedPrimsB_ok {σ : Syms} {N0 : Nat} {w0 : World} : ∀ f p, sortedPrimsB f = some p → PrimOk Try.prog σ N0 w0 f p := by
  intro f p h
  unfold sortedPrimsB at h
  cases hq : Nat.beq f 155 with
  | true =>
    rw [hq, cond_true] at h
    have := Nat.eq_of_beq_eq_true hq
    subst this
    cases h
    exact sortedAB_ok
  | false =>
    rw [hq, cond_false] at h
    cases hq2 : Nat.beq f 156 with
    | true =>
      rw [hq2, cond_true] at h
      have := Nat.eq_of_beq_eq_true hq2
      subst this
      cases h
      exact keysAB_ok
    | false => rw [hq2] at h; cases h

theorem begunBank_true (w : World) : Calls Try.prog 30 #[] w (fun e w' => e = .returned (.bool true) ∧ Below w.heap.size w w') :=
  calls_runP (σ := fun _ => (.i64, 0)) (n := 400) (args := []) (us := #[]) w sortedPrimsB_ok noFacts_ok (by kernel_rfl) rfl (by kernel_rfl)

set_option maxRecDepth 100000 in
set_option maxHeartbeats 2000000 in
theorem newBank_calls (w : World) : Calls Try.prog 31 #[] w fun e w' => ∃ B b, e = .returned (.pointer (some ⟨B, 0, none⟩)) ∧ BankAt w' B b 0 (.map []) ∧ w.heap.size ≤ B ∧ w.heap.size ≤ b ∧ w.grownBy w' none := by
  go_enter Try.func31, Try.ntmps31
  have hmm := @run_makeMap Try.prog
  go_wp2_with go_in
  clear hmm
  go_ret
  refine ⟨_, _, rfl, ⟨by go_simp, by simp, by simp, (World.ownsMap_made w Try.prog 3 regsR).alloc _⟩, by simp, Nat.le_refl _, (World.grownBy_alloc w _ none).trans (World.grownBy_alloc _ _ none)⟩

end Go.Proofs.Ytlgfopfibopcnaa
