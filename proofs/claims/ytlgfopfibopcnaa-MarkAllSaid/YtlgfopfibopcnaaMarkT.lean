/-
  Both marks, and the harness's row of what was given: how they go on.
-/
import Derived.Test.YtlgfopfibopcnaaMarkK
import Derived.Maps.AppendAt
namespace Go.Proofs.Ytlgfopfibopcnaa
open Go Go.RowKit Go.Maps Go.Am
set_option linter.unusedVariables false

structure MTwo (w0 w : World) (B b R base i : Nat) (g : Nat → Int) (L : List Int) (sv : Value) (S : List Int) : Prop where
  m : MarksAt w B b i g L
  r : RMarksAt w base R g L.reverse
  er : EachRises L.reverse
  len : L.length ≤ i
  seen : w.ownsRow base 23 1 sv S.length (S.map (Value.int .u64))
  swf : ∀ x ∈ S, (Lit.int .u64 x).wf = true
  slen : S.length ≤ i
  apart : ∀ v j, w.cell? ⟨R, 6, none⟩ = some v → v.ownBlock = some j → sv.ownBlock ≠ some j
  low : w0.heap.size ≤ B ∧ w0.heap.size ≤ b ∧ w0.heap.size ≤ R ∧ w0.heap.size ≤ base
  lt : B < base ∧ b < base ∧ R < base
  ne : R ≠ B ∧ R ≠ b
  size : base ≤ w.heap.size
  grow : GrowBut w0 w []

theorem MTwo.kept {w0 w w' : World} {B b R base i : Nat} {g : Nat → Int} {L : List Int} {sv : Value} {S : List Int} (h : MTwo w0 w B b R base i g L sv S) (hg : GrowBut w w' []) : MTwo w0 w' B b R base i g L sv S := by
  refine ⟨h.m.kept hg (by simp) (by simp), h.r.kept hg (by simp) (by simp), h.er, h.len, hg.row h.seen (fun j _ => by simp), h.swf, h.slen, fun v j hv hj => ?_, h.low, h.lt, h.ne, Nat.le_trans h.size hg.size, h.grow.trans hg⟩
  obtain ⟨v0, hc, _⟩ := h.r.ex
  have h1 := hg.cell hc (by simp)
  rw [h1] at hv
  cases hv
  exact h.apart _ j hc hj

/-- Behind the package's half. -/
theorem MTwo.mid {w0 w w1 : World} {B b R base i : Nat} {g : Nat → Int} {L : List Int} {sv : Value} {S : List Int} (h : MTwo w0 w B b R base i g L sv S) (hg : GrowBut w w1 [B, b]) : RMarksAt w1 base R g L.reverse ∧ base ≤ w1.heap.size :=
  ⟨h.r.kept hg (by have := h.ne; simp; omega) (fun x hx => by have := h.lt; simp at hx; omega), Nat.le_trans h.size hg.size⟩

/-- Behind both halves. -/
theorem MTwo.step {w0 w w1 w2 : World} {B b R base i : Nat} {g g' : Nat → Int} {L L' : List Int} {sv : Value} {S : List Int} (h : MTwo w0 w B b R base i g L sv S) (hl : L'.length ≤ i + 1) (he : EachRises L'.reverse) (hM : MarksAt w1 B b (i + 1) g' L') (hg : GrowBut w w1 [B, b])
    (hR : RMarksAt w2 base R g' L'.reverse) (hg2 : GrowBut w1 w2 [R]) (hN : RowNew w1 w2 R) : MTwo w0 w2 B b R base (i + 1) g' L' sv S := by
  have hlt := h.lt
  have hne := h.ne
  have hlow := h.low
  have hs1 := hg.row h.seen (fun j hj hm => by have h1 := (h.seen.lt j hj).1; simp at hm; omega)
  have hs2 := hg2.row hs1 (fun j hj hm => by have h1 := (hs1.lt j hj).1; simp at hm; omega)
  refine ⟨hM.kept hg2 (by simpa using fun e => hne.1 e.symm) (by simpa using fun e => hne.2 e.symm), hR, he, hl, hs2, h.swf, by have := h.slen; omega, fun v j hv hj => ?_, h.low, h.lt, h.ne, Nat.le_trans h.size (Nat.le_trans hg.size hg2.size), h.grow.from ((hg.mono (l' := [B, b, R]) (by simp)).trans (hg2.mono (by simp))) (fun x hx => .inr (by simp at hx; omega))⟩
  rcases hN v j hv hj with h1 | h1
  · obtain ⟨v0, hc, _⟩ := h.r.ex
    have h2 := hg.cell hc (by simp; omega)
    rw [h2] at h1
    cases h1
    exact h.apart _ j hc hj
  · intro e
    have := (h.seen.lt j e).2
    have := hg.size
    omega

/-- The harness notes a mark. -/
theorem MTwo.noted {w0 w w' : World} {B b R base i : Nat} {g : Nat → Int} {L : List Int} {sv sv' : Value} {S : List Int} {x : Int} (h : MTwo w0 w B b R base i g L sv S) (hx : (Lit.int .u64 x).wf = true) (hs : S.length + 1 ≤ i) (hg : GrowBut w w' sv.ownBlock.toList) (hrow : w'.ownsRow base 23 1 sv' (S ++ [x]).length ((S ++ [x]).map (Value.int .u64)))
    (hat : sv'.ownBlock = sv.ownBlock ∨ ∃ j, sv'.ownBlock = some j ∧ w.heap.size ≤ j) : MTwo w0 w' B b R base i g L sv' (S ++ [x]) := by
  have hlt := h.lt
  have hge : ∀ k ∈ sv.ownBlock.toList, base ≤ k := fun k hk => (h.seen.lt k (Option.mem_toList.1 hk)).1
  have hno : ∀ k, k < base → k ∉ sv.ownBlock.toList := fun k hk hm => by have := hge k hm; omega
  obtain ⟨v0, hc, hr⟩ := h.r.ex
  have hc' := hg.cell hc (hno R hlt.2.2)
  have hr' := hg.row hr (fun j hj hm => h.apart v0 j hc hj (Option.mem_toList.1 hm))
  refine ⟨h.m.kept hg (hno B hlt.1) (hno b hlt.2.1), ⟨fun k hk => hg.cell (h.r.c k hk) (hno R hlt.2.2), fun k hk => hg.frozen h.r.lt (h.r.fz k hk) (hno R hlt.2.2), ⟨v0, hc', hr'⟩, Nat.lt_of_lt_of_le h.r.lt hg.size, h.r.low, h.r.wf, h.r.nodup, h.r.few⟩, h.er, h.len, hrow, fun y hy => ?_, by simp; omega, fun v j hv hj => ?_, h.low, h.lt, h.ne, Nat.le_trans h.size hg.size, h.grow.from hg (fun k hk => .inr (by have := hge k hk; have := h.low; omega))⟩
  · rcases List.mem_append.1 hy with hy | hy
    · exact h.swf y hy
    · simp at hy; subst hy; exact hx
  · rw [hc'] at hv
    cases hv
    rcases hat with e | ⟨k, e, hk⟩
    · rw [e]; exact h.apart _ j hc hj
    · rw [e]
      intro e2
      cases e2
      have := (hr.lt j hj).2
      omega

end Go.Proofs.Ytlgfopfibopcnaa
