/-
  Two bells, the package's and the reference's, side by side.
-/
import Derived.Test.YtlgfopfibopcnaaBellQ
import Derived.Test.YtlgfopfibopcnaaRefBellQ
import Derived.Test.YtlgfopfibopcnaaRefNews
namespace Go.Proofs.Ytlgfopfibopcnaa
open Go Go.RowKit Go.Maps Go.Am Go.Sort
set_option linter.unusedVariables false

theorem hush_pure (l : List BSet) : (l.map fun e => ({ e with fresh := false } : BSet)).map pureB = hushF (l.map pureB) := by
  unfold hushF
  rw [List.map_map, List.map_map]
  rfl

theorem hush_foot (B b : Nat) (l : List BSet) : footB B b (l.map fun e => ({ e with fresh := false } : BSet)) = footB B b l := by
  unfold footB
  rw [List.map_map, List.map_map]
  rfl

theorem news_pure (l : List BSet) : newsF (l.map pureB) = (l.filter BSet.fresh).map BSet.who := by
  unfold newsF
  rw [List.filter_map, List.map_map]
  rfl

theorem rises_sort {ss : List Int} (hn : ss.Nodup) : Rises (ss.mergeSort (fun x y => decide (x ≤ y))) := by
  have h1 := List.pairwise_mergeSort (le := fun x y : Int => decide (x ≤ y)) (fun a b c h1 h2 => by simp at *; omega) (fun a b => by simp; omega) ss
  have h2 : (ss.mergeSort (fun x y => decide (x ≤ y))).Nodup := ((List.mergeSort_perm ss _).nodup_iff).2 hn
  exact (h1.and h2).imp fun {a b} h => by have := h.1; have := h.2; simp at *; omega

theorem rises_unique {L L' : List Int} (h : Rises L) (h' : Rises L') (hp : L.Perm L') : L = L' := by
  refine List.Perm.eq_of_pairwise (le := fun a b => decide (a ≤ b) = true) (fun a b _ _ h1 h2 => ?_) (h.imp fun {a b} h => by simp; omega) (h'.imp fun {a b} h => by simp; omega) hp
  simp at h1 h2
  omega

theorem Went.hush {w w' : World} {B b i n : Nat} {l : List BSet} (hn : n ≤ i) (hl : ∀ e ∈ l, e.n ≤ i ∧ (Lit.int .i64 e.who).wf = true) (h' : BellsAt w' B b n (l.map fun e => { e with fresh := false })) (hg : GrowBut w w' (l.map BSet.S)) : Went w B b i (footB B b l) (hushF (l.map pureB)) w' := by
  refine ⟨_, ⟨n, _, h', by omega, fun x hx => ?_, hush_pure l, rfl⟩, hg.mono (fun x hx => ?_), fun y hy => ?_⟩
  · obtain ⟨y, hy, rfl⟩ := List.mem_map.1 hx
    have := hl y hy
    exact ⟨by show y.n ≤ i + 1; omega, this.2⟩
  · obtain ⟨y, hy, rfl⟩ := List.mem_map.1 hx
    exact mem_footB.2 (.inr (.inr ⟨y, hy, .inl rfl⟩))
  · rw [hush_foot] at hy
    exact .inl hy

theorem wNews (B b i : Nat) (p : List PB) (F : List Nat) (w : World) (h : BOk w B b i p F) (hi : i ≤ 900) :
    Calls Try.prog 67 #[.pointer (some ⟨B, 0, none⟩)] w fun r w' => ∃ (v : Value) (L : List Int), r = .returned v ∧ Rises L ∧ L.Perm (newsF p) ∧ w'.ownsRow w.heap.size 3 1 v L.length (L.map (Value.int .i64)) ∧ Went w B b i F (hushF p) w' := by
  obtain ⟨n, l, hB, hn, hl, rfl, rfl⟩ := h.ex
  refine (news_calls B b n l w hB (by omega) (fun e he => (hl e he).2)).mono ?_
  rintro r w' ⟨v, ss, rfl, hp, hrow, hB', hg⟩
  have hnd : ss.Nodup := hp.nodup_iff.2 (List.Nodup.sublist (List.Sublist.map _ List.filter_sublist) hB.whos)
  refine ⟨v, _, rfl, rises_sort hnd, ?_, ?_, Went.hush hn hl hB' hg⟩
  · rw [news_pure]
    exact (List.mergeSort_perm ss _).trans hp
  · rw [List.length_mergeSort]
    exact hrow

theorem xNews (B b i : Nat) (p : List PB) (F : List Nat) (w : World) (h : BOk w B b i p F) (hi : i ≤ 900) :
    Calls Try.prog 68 #[.pointer (some ⟨B, 0, none⟩)] w fun r w' => ∃ (v : Value) (L : List Int), r = .returned v ∧ Rises L ∧ L.Perm (newsF p) ∧ w'.ownsRow w.heap.size 3 1 v L.length (L.map (Value.int .i64)) ∧ Went w B b i F (hushF p) w' := by
  obtain ⟨n, l, hB, hn, hl, rfl, rfl⟩ := h.ex
  refine (rnews_calls B b n l w hB (by omega)).mono ?_
  rintro r w' ⟨v, L, rfl, hp, hris, hrow, hB', hg⟩
  exact ⟨v, L, rfl, hris, by rw [news_pure]; exact hp, hrow, Went.hush hn hl hB' hg⟩

/-- Both bells: which they are, where they lie, how many deeds each has behind it. -/
structure TwoB (w0 w : World) (B b R m i j : Nat) (p q : List PB) (F G : List Nat) : Prop where
  one : BOk w B b i p F
  two : BOk w R m j q G
  apart : ∀ x ∈ F, x ∉ G
  lowF : ∀ x ∈ F, w0.heap.size ≤ x
  lowG : ∀ x ∈ G, w0.heap.size ≤ x
  grow : GrowBut w0 w []

theorem TwoB.left {w0 w w' : World} {B b R m i j : Nat} {p p' q : List PB} {F G : List Nat} (h : TwoB w0 w B b R m i j p q F G) (hw : Went w B b i F p' w') : GrowBut w w' F ∧ ∃ F', TwoB w0 w' B b R m (i + 1) j p' q F' G := by
  obtain ⟨F', h1, hg, hs⟩ := hw
  have hgs := h.grow.size
  refine ⟨hg, F', h1, h.two.kept hg (fun x hx hf => h.apart x hf hx), fun x hx hG => ?_, fun x hx => ?_, h.lowG, h.grow.from hg (fun x hx => .inr (h.lowF x hx))⟩
  · rcases hs x hx with h2 | h2
    · exact h.apart x h2 hG
    · have := h.two.lt x hG; omega
  · rcases hs x hx with h2 | h2
    · exact h.lowF x h2
    · omega

theorem TwoB.right {w0 w w' : World} {B b R m i j : Nat} {p q q' : List PB} {F G : List Nat} (h : TwoB w0 w B b R m i j p q F G) (hw : Went w R m j G q' w') : GrowBut w w' G ∧ ∃ G', TwoB w0 w' B b R m i (j + 1) p q' F G' := by
  obtain ⟨G', h1, hg, hs⟩ := hw
  have hgs := h.grow.size
  refine ⟨hg, G', h.one.kept hg (fun x hx hf => h.apart x hx hf), h1, fun x hx hG => ?_, h.lowF, fun x hx => ?_, h.grow.from hg (fun x hx => .inr (h.lowG x hx))⟩
  · rcases hs x hG with h2 | h2
    · exact h.apart x hx h2
    · have := h.one.lt x hx; omega
  · rcases hs x hx with h2 | h2
    · exact h.lowG x h2
    · omega

theorem TwoB.kept {w0 w w' : World} {B b R m i j : Nat} {p q : List PB} {F G : List Nat} (h : TwoB w0 w B b R m i j p q F G) (hg : GrowBut w w' []) : TwoB w0 w' B b R m i j p q F G :=
  ⟨h.one.kept hg (by simp), h.two.kept hg (by simp), h.apart, h.lowF, h.lowG, h.grow.trans hg⟩

theorem TwoB.le {w0 w : World} {B b R m i j i' j' : Nat} {p q : List PB} {F G : List Nat} (h : TwoB w0 w B b R m i j p q F G) (hi : i ≤ i') (hj : j ≤ j') : TwoB w0 w B b R m i' j' p q F G :=
  ⟨h.one.le hi, h.two.le hj, h.apart, h.lowF, h.lowG, h.grow⟩

/-- Both go on in one. -/
theorem TwoB.both {w0 w w1 w2 : World} {B b R m i j : Nat} {p p' q q' : List PB} {F G : List Nat} (h : TwoB w0 w B b R m i j p q F G) (h1 : Went w B b i F p' w1) (h2 : GrowBut w w1 F → BOk w1 R m j q G → Went w1 R m j G q' w2) : ∃ F' G', TwoB w0 w2 B b R m (i + 1) (j + 1) p' q' F' G' := by
  obtain ⟨hg, F', hL⟩ := h.left h1
  obtain ⟨_, G', hR⟩ := hL.right (h2 hg hL.two)
  exact ⟨F', G', hR⟩

end Go.Proofs.Ytlgfopfibopcnaa
