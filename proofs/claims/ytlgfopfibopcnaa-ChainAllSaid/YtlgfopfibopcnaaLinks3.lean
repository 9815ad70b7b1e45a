/-
  chain.Links: the contract for the machine.
-/
import Derived.Test.YtlgfopfibopcnaaLinks2
import Derived.Test.YtlgfopfibopcnaaAm31
namespace Go.Proofs.Ytlgfopfibopcnaa
open Go Go.RowKit Go.Maps Go.Am
set_option linter.unusedVariables false

noncomputable def linksA : List AVal → AState → R (AVal × AState)
  | [.ptr c o], s => do
    match ← nth (← getCells s c) o with
    | .map m => match ← s.get m with
      | .map es k => match fitQ .i64 es k with
        | some _ => bif valsI .i64 es then (match es with
          | [] => .ok (.lit (.slice none 0 0), s)
          | e :: r => do
            let s1 ← s.alloc (.cells [] false)
            .ok (.slice s.next 0 (e :: r).length (.grown 2), s1)) else .fail "Links: values"
        | none => .fail "Links: keys"
      | _ => .fail "Links"
    | _ => .fail "Links"
  | _, _ => .fail "Links"

theorem linksA_ok {σ : Syms} {N0 : Nat} {w0 : World} : PrimOk Try.prog σ N0 w0 49 linksA := by
  have inv : ∀ args s v s', linksA args s = .ok (v, s') → ∃ c o cs g m es k l, args = [.ptr c o] ∧ s.heap.get c = some (.cells cs g) ∧ cs[o]? = some (.map m) ∧ s.heap.get m = some (.map es k) ∧ fitQ .i64 es k = some l ∧ valsI .i64 es = true ∧
      ((es = [] ∧ v = .lit (.slice none 0 0) ∧ s' = s) ∨ (es ≠ [] ∧ s.alloc (.cells [] false) = .ok s' ∧ v = .slice s.next 0 es.length (.grown 2))) := by
    intro args s v s' h
    unfold linksA at h
    split at h
    · rename_i s1 c o
      replace h := R.bind_ok' h
      obtain ⟨cs, h1, h⟩ := h
      replace h := R.bind_ok' h
      obtain ⟨x, h2, h⟩ := h
      obtain ⟨g, hg⟩ := getCells_ok h1
      split at h
      · rename_i m
        replace h := R.bind_ok' h
        obtain ⟨ob, h3, h⟩ := h
        split at h
        · rename_i es k
          split at h
          · rename_i l hl
            cases hv : valsI .i64 es with
            | false => rw [hv] at h; cases h
            | true =>
              rw [hv, cond_true] at h
              refine ⟨c, o, cs, g, m, es, k, l, rfl, hg, nth_ok h2, get_ok h3, hl, hv, ?_⟩
              split at h
              · cases h; exact .inl ⟨rfl, rfl, rfl⟩
              · replace h := R.bind_ok' h
                obtain ⟨s2, h4, h⟩ := h
                cases h
                exact .inr ⟨by simp, h4, rfl⟩
          · cases h
        · cases h
      · cases h
    · cases h
  refine ⟨fun args s v s' h => ?_, fun args s v s' h ρ w us hw hf hv => ?_⟩
  · obtain ⟨c, o, cs, g, m, es, k, l, _, _, _, _, _, _, ⟨_, _, rfl⟩ | ⟨_, h1, _⟩⟩ := inv _ _ _ _ h
    · exact Abs.refl _
    · exact Abs.alloc h1
  · obtain ⟨c, o, cs, g, m, es, k, l, rfl, g1, g2, g3, g4, g5, hr⟩ := inv _ _ _ _ h
    obtain ⟨u1, r1, e1, ⟨L, hL, rfl⟩, rfl⟩ := hv
    have hus : us = #[.pointer (some ⟨L.blk, L.off + o, none⟩)] := by apply Array.toList_inj.1; rw [e1]
    subst hus
    obtain ⟨k1, _, _⟩ := hw.heap _ _ g1 L hL
    obtain ⟨u, hu, M, hM, rfl⟩ := k1 o (.map m) g2
    obtain ⟨ms, hm1, hm2⟩ := hw.heap _ _ g3 M hM
    obtain ⟨D0, hown, hperm, hsz, hle⟩ := fitQ_ok (H := Unit) (P := Try.prog) (k := 3) (plainElem Try.prog 3) Try.underlying3 g4 hm1 hm2 (valsI_ok Try.underlying3 g5 hm2)
    refine (links_calls L.blk (L.off + o) M.blk es.length D0 w hu hown (by omega)).mono fun e w' ⟨v1, he, hv1, hb⟩ => ?_
    rcases hr with ⟨rfl, rfl, rfl⟩ | ⟨hne, ha, rfl⟩
    · rcases hv1 with ⟨_, rfl⟩ | ⟨g', cap, rfl, h0, h1, h2, h3⟩
      · exact ⟨_, ρ, he, ⟨rfl, rfl⟩, Post.wider hw hb.size hb.block ⟨hb.os, hb.tape, hb.output⟩⟩
      · rw [hsz] at h0; exact absurd h0 (Nat.lt_irrefl 0)
    · rcases hv1 with ⟨h0, _⟩ | ⟨g', cap, rfl, _, h1, h2, h3⟩
      · exfalso
        rw [hsz] at h0
        exact hne (List.length_eq_zero_iff.1 h0)
      · rw [hsz] at he h1
        obtain ⟨ρ', h5, h6⟩ := Post.newDim (k := 2) hw hb ha hf h2 h3 h1
        exact ⟨_, ρ', he, h5, h6⟩

end Go.Proofs.Ytlgfopfibopcnaa
