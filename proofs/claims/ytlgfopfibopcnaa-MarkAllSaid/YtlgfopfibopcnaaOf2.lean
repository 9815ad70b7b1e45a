/-
  mark.Of: the contract for the machine.
-/
import Derived.Test.YtlgfopfibopcnaaOf
import Derived.Test.YtlgfopfibopcnaaExplore
namespace Go.Proofs.Ytlgfopfibopcnaa
open Go Go.RowKit Go.Maps Go.Am
set_option linter.unusedVariables false

def valsB (es : List AEntry) : Bool := es.all fun e => match e.val with
  | .lit (.bool _) => true
  | _ => false

theorem valsB_ok {H : Type} {σ : Syms} {ρ : Am.Ren} {es : List AEntry} {ms : List MapEntry} (h : valsB es = true) (hr : ERels σ ρ es ms) : ∀ x ∈ ms, ∃ z, plainElem (H := H) Try.prog 4 x.val = some z := by
  intro x hx
  obtain ⟨a, ha, _, _, hv⟩ := hr.mem x hx
  have := List.all_eq_true.1 h a ha
  split at this
  · rename_i c hval
    rw [hval] at hv
    obtain ⟨hv, _⟩ := hv
    rw [hv]
    exact ⟨_, plainElem_bool Try.underlying4 c⟩
  · cases this

def howMany (s : Int) (l : List Int) : Nat := (l.filter fun x => decide (whose x = s)).length

noncomputable def ofA : List AVal → AState → R (AVal × AState)
  | [.ptr m o, .lit (.int .i64 n)], s => do
    match ← nth (← getCells s m) (o + 6) with
    | .map b => match ← s.get b with
      | .map es k => match fitQ .u64 es k with
        | some l => bif valsB es && Nat.ble (howMany n l) 4 then (match howMany n l with
          | 0 => .ok (.lit (.slice none 0 0), s)
          | k + 1 => do
            let s1 ← s.alloc (.cells [] false)
            .ok (.slice s.next 0 (k + 1) (.grown 1), s1)) else .fail "Of: values"
        | none => .fail "Of: keys"
      | _ => .fail "Of"
    | _ => .fail "Of"
  | _, _ => .fail "Of"

theorem ofA_ok {σ : Syms} {N0 : Nat} {w0 : World} : PrimOk Try.prog σ N0 w0 24 ofA := by
  have inv : ∀ args s v s', ofA args s = .ok (v, s') → ∃ c o n cs g m es k l, args = [.ptr c o, .lit (.int .i64 n)] ∧ s.heap.get c = some (.cells cs g) ∧ cs[o + 6]? = some (.map m) ∧ s.heap.get m = some (.map es k) ∧ fitQ .u64 es k = some l ∧ valsB es = true ∧ howMany n l ≤ 4 ∧
      ((howMany n l = 0 ∧ v = .lit (.slice none 0 0) ∧ s' = s) ∨ (0 < howMany n l ∧ s.alloc (.cells [] false) = .ok s' ∧ v = .slice s.next 0 (howMany n l) (.grown 1))) := by
    intro args s v s' h
    unfold ofA at h
    split at h
    · rename_i s1 c o n
      replace h := R.bind_ok' h
      obtain ⟨cs, h1, h⟩ := h
      replace h := R.bind_ok' h
      obtain ⟨x, h2, h⟩ := h
      obtain ⟨g, hg⟩ := getCells_ok h1
      split at h
      · rename_i m
        replace h := R.bind_ok' h
        obtain ⟨ob, h3, h⟩ := h
        split at h
        · rename_i es k
          split at h
          · rename_i l hl
            cases hv : (valsB es && Nat.ble (howMany n l) 4) with
            | false => rw [hv] at h; cases h
            | true =>
              rw [hv, cond_true] at h
              simp only [Bool.and_eq_true] at hv
              refine ⟨c, o, n, cs, g, m, es, k, l, rfl, hg, nth_ok h2, get_ok h3, hl, hv.1, Nat.le_of_ble_eq_true hv.2, ?_⟩
              generalize howMany n l = q at h hv ⊢
              cases q with
              | zero => cases h; exact .inl ⟨rfl, rfl, rfl⟩
              | succ q =>
                replace h := R.bind_ok' h
                obtain ⟨s2, h4, h⟩ := h
                cases h
                exact .inr ⟨Nat.succ_pos q, h4, rfl⟩
          · cases h
        · cases h
      · cases h
    · cases h
  refine ⟨fun args s v s' h => ?_, fun args s v s' h ρ w us hw hf hv => ?_⟩
  · obtain ⟨c, o, n, cs, g, m, es, k, l, _, _, _, _, _, _, _, ⟨_, _, rfl⟩ | ⟨_, h1, _⟩⟩ := inv _ _ _ _ h
    · exact Abs.refl _
    · exact Abs.alloc h1
  · obtain ⟨c, o, n, cs, g, m, es, k, l, rfl, g1, g2, g3, g4, g5, g6, hr⟩ := inv _ _ _ _ h
    obtain ⟨u1, r1, e1, ⟨L, hL, rfl⟩, u2, r2, e2, ⟨rfl, _⟩, rfl⟩ := hv
    have hus : us = #[.pointer (some ⟨L.blk, L.off + o, none⟩), .int .i64 n] := by apply Array.toList_inj.1; rw [e1, e2]
    subst hus
    obtain ⟨k1, _, _⟩ := hw.heap _ _ g1 L hL
    obtain ⟨u, hu, M, hM, rfl⟩ := k1 (o + 6) (.map m) g2
    obtain ⟨ms, hm1, hm2⟩ := hw.heap _ _ g3 M hM
    obtain ⟨D0, hown, hperm, hsz, hle⟩ := fitQ_ok (H := Unit) (P := Try.prog) (k := 23) (plainElem Try.prog 4) Try.underlying23 g4 hm1 hm2 (valsB_ok g5 hm2)
    have hF : ((intKeys D0).filter fun x => decide (whose x = n)).length = howMany n l := ((hperm.symm.filter _).length_eq)
    have hcall := of_calls L.blk (L.off + o) M.blk es.length n D0 w (by rw [Nat.add_assoc]; exact hu) hown (by omega) (by rw [hF]; exact g6)
    rw [hF] at hcall
    refine hcall.mono fun e w' ⟨v1, he, hv1, hb⟩ => ?_
    rcases hr with ⟨h0, rfl, rfl⟩ | ⟨hpos, ha, rfl⟩
    · rcases hv1 with ⟨_, rfl⟩ | ⟨g', cap, rfl, h1, _⟩
      · exact ⟨_, ρ, he, ⟨rfl, rfl⟩, Post.wider hw hb.size hb.block ⟨hb.os, hb.tape, hb.output⟩⟩
      · omega
    · rcases hv1 with ⟨h0, _⟩ | ⟨g', cap, rfl, _, h1, h2, h3⟩
      · omega
      · obtain ⟨ρ', h5, h6⟩ := Post.newDim (k := 1) hw hb ha hf h2 h3 h1
        exact ⟨_, ρ', he, h5, h6⟩

noncomputable def ofPrims : Prims := fun f => bif Nat.beq f 24 then some ofA else none

theorem ofPrims_ok {σ : Syms} {N0 : Nat} {w0 : World} : ∀ f p, ofPrims f = some p → PrimOk Try.prog σ N0 w0 f p := by
  intro f p h
  unfold ofPrims at h
  cases hq : Nat.beq f 24 with
  | false => rw [hq] at h; cases h
  | true =>
    rw [hq, cond_true] at h
    have := Nat.eq_of_beq_eq_true hq
    subst this
    cases h
    exact ofA_ok

end Go.Proofs.Ytlgfopfibopcnaa
