/-
  Bells as a list of who has them: what each method of package bell answers, and what is behind it.
-/
import Derived.Test.YtlgfopfibopcnaaBellD
namespace Go.Proofs.Ytlgfopfibopcnaa
open Go Go.RowKit Go.Maps Go.Am Go.Sort
set_option linter.unusedVariables false

/-- Somebody's bells, without where they lie. -/
structure PB where
  who : Int
  fr : Int → Nat
  rung : Nat
  fresh : Bool

def pureB (e : BSet) : PB := ⟨e.who, e.fr, e.rung, e.fresh⟩

/-- The blocks that bells take. -/
def footB (B b : Nat) (l : List BSet) : List Nat := B :: b :: (l.map BSet.S ++ l.map BSet.f)

theorem mem_footB {B b : Nat} {l : List BSet} {x : Nat} : x ∈ footB B b l ↔ x = B ∨ x = b ∨ ∃ e ∈ l, x = e.S ∨ x = e.f := by
  unfold footB
  simp only [List.mem_cons, List.mem_append, List.mem_map]
  constructor
  · rintro (h | h | ⟨e, he, h⟩ | ⟨e, he, h⟩)
    · exact .inl h
    · exact .inr (.inl h)
    · exact .inr (.inr ⟨e, he, .inl h.symm⟩)
    · exact .inr (.inr ⟨e, he, .inr h.symm⟩)
  · rintro (h | h | ⟨e, he, h | h⟩)
    · exact .inl h
    · exact .inr (.inl h)
    · exact .inr (.inr (.inl ⟨e, he, h.symm⟩))
    · exact .inr (.inr (.inr ⟨e, he, h.symm⟩))

/-- Bells lie at B; they are p, and take the blocks F; i deeds were done. -/
structure BOk (w : World) (B b i : Nat) (p : List PB) (F : List Nat) : Prop where
  ex : ∃ n l, BellsAt w B b n l ∧ n ≤ i ∧ (∀ e ∈ l, e.n ≤ i ∧ (Lit.int .i64 e.who).wf = true) ∧ l.map pureB = p ∧ footB B b l = F

theorem BOk.kept {w w' : World} {B b i : Nat} {p : List PB} {F t : List Nat} (h : BOk w B b i p F) (hg : GrowBut w w' t) (ht : ∀ x ∈ F, x ∉ t) : BOk w' B b i p F := by
  obtain ⟨n, l, hB, hn, hl, rfl, rfl⟩ := h.ex
  exact ⟨n, l, hB.kept hg (ht _ (mem_footB.2 (.inl rfl))) (ht _ (mem_footB.2 (.inr (.inl rfl)))) (fun e he => ⟨ht _ (mem_footB.2 (.inr (.inr ⟨e, he, .inl rfl⟩))), ht _ (mem_footB.2 (.inr (.inr ⟨e, he, .inr rfl⟩)))⟩), hn, hl, rfl, rfl⟩

theorem BOk.lt {w : World} {B b i : Nat} {p : List PB} {F : List Nat} (h : BOk w B b i p F) : ∀ x ∈ F, x < w.heap.size := by
  obtain ⟨n, l, hB, hn, hl, rfl, rfl⟩ := h.ex
  intro x hx
  rcases mem_footB.1 hx with rfl | rfl | ⟨e, he, rfl | rfl⟩
  · exact hB.lt
  · exact hB.blt
  · exact (hB.sets e he).lt
  · obtain ⟨D, hown, _⟩ := (hB.sets e he).own
    exact hown.lt

theorem BOk.le {w : World} {B b i j : Nat} {p : List PB} {F : List Nat} (h : BOk w B b i p F) (hij : i ≤ j) : BOk w B b j p F := by
  obtain ⟨n, l, hB, hn, hl, h1, h2⟩ := h.ex
  exact ⟨n, l, hB, by omega, fun e he => ⟨by have := (hl e he).1; omega, (hl e he).2⟩, h1, h2⟩

/-! ### All bells that are anybody's to ring -/
theorem testBit_orAllP (K : List Int) (fr : Int → Nat) (x : Nat) : (orAll K fr).testBit x = K.any fun k => (fr k).testBit x := by
  unfold orAll
  induction K with
  | nil => simp
  | cons k K ih => simp only [List.foldr_cons, Nat.testBit_or, ih, List.any_cons]

theorem orAll_any {K K' : List Int} {fr : Int → Nat} (h : ∀ k, k ∉ K → fr k = 0) (h' : ∀ k, k ∉ K' → fr k = 0) : orAll K fr = orAll K' fr := by
  refine Nat.eq_of_testBit_eq fun x => ?_
  rw [testBit_orAllP, testBit_orAllP, Bool.eq_iff_iff, List.any_eq_true, List.any_eq_true]
  constructor
  · rintro ⟨k, hk, hb⟩
    refine ⟨k, ?_, hb⟩
    apply Decidable.byContradiction
    intro hn
    rw [h' k hn] at hb
    simp at hb
  · rintro ⟨k, hk, hb⟩
    refine ⟨k, ?_, hb⟩
    apply Decidable.byContradiction
    intro hn
    rw [h k hn] at hb
    simp at hb

open Classical in
noncomputable def orOf (fr : Int → Nat) : Nat := if h : ∃ K : List Int, ∀ k, k ∉ K → fr k = 0 then orAll h.choose fr else 0

theorem orOf_eq {K : List Int} {fr : Int → Nat} (h : ∀ k, k ∉ K → fr k = 0) : orOf fr = orAll K fr := by
  have hex : ∃ K : List Int, ∀ k, k ∉ K → fr k = 0 := ⟨K, h⟩
  unfold orOf
  rw [dif_pos hex]
  exact orAll_any hex.choose_spec h

theorem SetAt.orOf {w : World} {e : BSet} (h : SetAt w e) : orOf e.fr = orAll e.K e.fr := by
  obtain ⟨D, hown, hD⟩ := h.own
  exact orOf_eq hD.out

/-! ### What the methods answer -/
def findB (p : List PB) (who : Int) : Option PB := p.find? fun e => decide (e.who = who)
def updP (p : List PB) (who : Int) (g : PB → PB) : List PB := p.map fun e => if e.who = who then g e else e

theorem findB_nil (who : Int) : findB [] who = none := rfl

theorem find_cases (l : List BSet) (who : Int) : (who ∉ l.map BSet.who ∧ findB (l.map pureB) who = none) ∨ ∃ e ∈ l, e.who = who ∧ findB (l.map pureB) who = some (pureB e) := by
  unfold findB
  rw [List.find?_map]
  cases h : l.find? ((fun e => decide (e.who = who)) ∘ pureB) with
  | none =>
    left
    rw [List.find?_eq_none] at h
    refine ⟨fun hm => ?_, rfl⟩
    obtain ⟨e, he, h1⟩ := List.mem_map.1 hm
    exact h e he (by simp [pureB, h1])
  | some e =>
    right
    have h1 := List.find?_some h
    refine ⟨e, List.mem_of_find?_eq_some h, ?_, rfl⟩
    exact of_decide_eq_true h1

theorem map_updB (l : List BSet) (who : Int) (g : BSet → BSet) (g' : PB → PB) (h : ∀ e, pureB (g e) = g' (pureB e)) : (updB l who g).map pureB = updP (l.map pureB) who g' := by
  unfold updB updP
  rw [List.map_map, List.map_map]
  refine List.map_congr_left fun e _ => ?_
  simp only [Function.comp]
  by_cases hw : e.who = who
  · rw [if_pos hw, if_pos (show (pureB e).who = who from hw), h]
  · rw [if_neg hw, if_neg (show ¬ (pureB e).who = who from hw)]

theorem foot_updB (B b : Nat) (l : List BSet) (who : Int) (g : BSet → BSet) (h : ∀ e, (g e).S = e.S ∧ (g e).f = e.f) : footB B b (updB l who g) = footB B b l := by
  have h1 : (updB l who g).map BSet.S = l.map BSet.S := by
    unfold updB
    rw [List.map_map]
    refine List.map_congr_left fun e _ => ?_
    simp only [Function.comp]
    split
    · exact (h e).1
    · rfl
  have h2 : (updB l who g).map BSet.f = l.map BSet.f := by
    unfold updB
    rw [List.map_map]
    refine List.map_congr_left fun e _ => ?_
    simp only [Function.comp]
    split
    · exact (h e).2
    · rfl
  unfold footB
  rw [h1, h2]

noncomputable def makeF (p : List PB) (who : Int) : Int × List PB := match findB p who with
  | none => (0, p ++ [⟨who, fun _ => 0, 0, false⟩])
  | some _ => (-6, p)
noncomputable def unmakeF (p : List PB) (who : Int) : Int × List PB := match findB p who with
  | none => (-6, p)
  | some e => if orOf e.fr = 0 then (0, p.filter fun e => decide (e.who ≠ who)) else (-6, p)
noncomputable def bindF (p : List PB) (who from_ : Int) (bits : Nat) : Int × List PB := match findB p who with
  | none => (-6, p)
  | some e => if bits = 0 then (-2, p) else if orOf e.fr &&& bits = 0 then (0, updP p who fun e => { e with fr := fun x => if x = from_ then e.fr from_ ||| bits else e.fr x }) else (-6, p)
noncomputable def unbindF (p : List PB) (who from_ : Int) (bits : Nat) : Int × List PB := match findB p who with
  | none => (-6, p)
  | some e => if bits = 0 then (-2, p) else if bits &&& (18446744073709551615 - e.fr from_) = 0 then (if e.rung &&& bits = 0 then (0, updP p who fun e => { e with fr := fun x => if x = from_ then e.fr from_ &&& (18446744073709551615 - bits) else e.fr x }) else (-4, p)) else (-6, p)
noncomputable def ringF (p : List PB) (who from_ : Int) (bits : Nat) : Int × List PB := match findB p who with
  | none => (-6, p)
  | some e => if bits = 0 then (-2, p) else if bits &&& (18446744073709551615 - e.fr from_) = 0 then (0, updP p who fun e => { e with rung := e.rung ||| bits, fresh := true }) else (-6, p)
def hearF (p : List PB) (who : Int) : Nat × Int × List PB := match findB p who with
  | none => (0, -6, p)
  | some e => (e.rung, 0, updP p who fun e => { e with rung := 0, fresh := false })
def boundF (p : List PB) (who from_ : Int) : Nat := match findB p who with
  | none => 0
  | some e => e.fr from_
def newsF (p : List PB) : List Int := (p.filter PB.fresh).map PB.who
def hushF (p : List PB) : List PB := p.map fun e => { e with fresh := false }

/-- What is behind a method that turned bells. -/
def Went (w : World) (B b i : Nat) (F : List Nat) (p' : List PB) (w' : World) : Prop := ∃ F', BOk w' B b (i + 1) p' F' ∧ GrowBut w w' F ∧ ∀ y ∈ F', y ∈ F ∨ w.heap.size ≤ y

theorem BOk.stay {w w' : World} {B b i : Nat} {p : List PB} {F : List Nat} (h : BOk w B b i p F) (hg : GrowBut w w' []) : Went w B b i F p w' :=
  ⟨F, (h.kept hg (by simp)).le (by omega), hg.mono (by simp), fun y hy => .inl hy⟩

theorem Went.turn {w w' : World} {B b i n' : Nat} {l : List BSet} (hl : ∀ e ∈ l, e.n ≤ i ∧ (Lit.int .i64 e.who).wf = true) {e : BSet} (he : e ∈ l) (g : BSet → BSet) (g' : PB → PB) (hp : ∀ e, pureB (g e) = g' (pureB e)) (hS : ∀ e, (g e).who = e.who ∧ (g e).S = e.S ∧ (g e).f = e.f) (hgn : ∀ e, (g e).n ≤ e.n + 1)
    (h' : BellsAt w' B b n' (updB l e.who g)) (hn' : n' ≤ i + 1) {t : List Nat} (hg : GrowBut w w' t) (ht : ∀ x ∈ t, x = e.S ∨ x = e.f) : Went w B b i (footB B b l) (updP (l.map pureB) e.who g') w' := by
  refine ⟨_, ⟨n', _, h', hn', fun x hx => ?_, map_updB l e.who g g' hp, rfl⟩, hg.mono (fun x hx => mem_footB.2 (.inr (.inr ⟨e, he, ht x hx⟩))), fun y hy => ?_⟩
  · obtain ⟨y, hy, rfl⟩ := mem_updB hx
    have h1 := hl y hy
    split
    · exact ⟨by have := hgn y; omega, by rw [(hS y).1]; exact h1.2⟩
    · exact ⟨by omega, h1.2⟩
  · rw [foot_updB B b l e.who g fun e => (hS e).2] at hy
    exact .inl hy

end Go.Proofs.Ytlgfopfibopcnaa
