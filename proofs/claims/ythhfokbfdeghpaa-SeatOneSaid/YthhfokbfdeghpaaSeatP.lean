/-
  Who runs where, as functions: what holds before a deed holds behind it.
-/
import Derived.Test.YthhfokbfdeghpaaChainC
namespace Go.Proofs.Ythhfokbfdeghpaa
open Go Go.RowKit Go.Maps Go.Am
set_option linter.unusedVariables false

def up {α : Type} (f : Nat → α) (k : Nat) (v : α) : Nat → α := fun x => if x = k then v else f x

theorem up_same {α : Type} (f : Nat → α) (k : Nat) (v : α) : up f k v k = v := by simp [up]
theorem up_other {α : Type} (f : Nat → α) {k x : Nat} (v : α) (h : x ≠ k) : up f k v x = f x := by simp [up, h]

/-- Who runs where (now), what parts are (ph), who owes an answer (ow), who waits for whom (L). -/
structure Inv (n : Nat) (now ph : Nat → Nat) (ow : Nat → Bool) (L : List (Int × Int)) : Prop where
  lt : ∀ i, i < n → now i < 5
  one : ∀ i, i < n → ∀ j, j < n → now i = now j → now i ≠ 0 → i = j
  run : ∀ p, 1 ≤ p → p < 5 → (ph p = 2 ↔ ∃ i, i < n ∧ now i = p)
  blk : ∀ p, 1 ≤ p → p < 5 → (ph p = 3 ↔ (p : Int) ∈ L.map Prod.fst)
  rng : ∀ x ∈ L, ∃ p q : Nat, x = ((p : Int), (q : Int)) ∧ 1 ≤ p ∧ p < 5 ∧ 1 ≤ q ∧ q < 5 ∧ ow q = true
  phr : ∀ p, 1 ≤ p → p < 5 → 1 ≤ ph p ∧ ph p ≤ 5

/-- A processor goes from one part to another: what is to be shown of the others' phases is nothing. -/
theorem run_swap {n : Nat} {now : Nat → Nat} {c q : Nat} (hc : c < n) (x : Nat) (hx : x ≠ now c) (hq : x ≠ q) : (∃ i, i < n ∧ up now c q i = x) ↔ ∃ i, i < n ∧ now i = x := by
  constructor
  · rintro ⟨i, hi, e⟩
    by_cases ei : i = c
    · subst ei; rw [up_same] at e; exact absurd e.symm hq
    · rw [up_other _ _ ei] at e; exact ⟨i, hi, e⟩
  · rintro ⟨i, hi, e⟩
    have ei : i ≠ c := fun ei => hx (by rw [← e, ei])
    exact ⟨i, hi, by rw [up_other _ _ ei]; exact e⟩

theorem run_new {n : Nat} {now : Nat → Nat} {c q : Nat} (hc : c < n) : ∃ i, i < n ∧ up now c q i = q := ⟨c, hc, up_same _ _ _⟩

theorem run_old {n : Nat} {now : Nat → Nat} {c q : Nat} (hc : c < n) (h1 : ∀ i, i < n → ∀ j, j < n → now i = now j → now i ≠ 0 → i = j) (hp : now c ≠ 0) (hq : now c ≠ q) : ¬ ∃ i, i < n ∧ up now c q i = now c := by
  rintro ⟨i, hi, e⟩
  by_cases ei : i = c
  · subst ei; rw [up_same] at e; exact hq e.symm
  · rw [up_other _ _ ei] at e
    exact ei (h1 i hi c hc e (by omega))

theorem one_up {n : Nat} {now : Nat → Nat} {c q : Nat} (h1 : ∀ i, i < n → ∀ j, j < n → now i = now j → now i ≠ 0 → i = j) (hq : q = 0 ∨ ∀ i, i < n → now i ≠ q) :
    ∀ i, i < n → ∀ j, j < n → up now c q i = up now c q j → up now c q i ≠ 0 → i = j := by
  intro i hi j hj e h0
  by_cases ei : i = c <;> by_cases ej : j = c
  · rw [ei, ej]
  · subst ei
    rw [up_same] at e h0
    rw [up_other _ _ ej] at e
    rcases hq with h | h
    · exact absurd h h0
    · exact absurd e.symm (h j hj)
  · subst ej
    rw [up_other _ _ ei] at e h0
    rw [up_same] at e
    rcases hq with h | h
    · exact absurd (e.trans h) h0
    · exact absurd e (h i hi)
  · rw [up_other _ _ ei] at e h0
    rw [up_other _ _ ej] at e
    exact h1 i hi j hj e h0

theorem lt_up {n : Nat} {now : Nat → Nat} {c q : Nat} (h : ∀ i, i < n → now i < 5) (hq : q < 5) : ∀ i, i < n → up now c q i < 5 := by
  intro i hi
  by_cases ei : i = c
  · subst ei; rw [up_same]; exact hq
  · rw [up_other _ _ ei]; exact h i hi

theorem Inv.nobody {n : Nat} {now ph : Nat → Nat} {ow : Nat → Bool} {L : List (Int × Int)} (h : Inv n now ph ow L) {q : Nat} (h1 : 1 ≤ q) (h5 : q < 5) (hq : ph q ≠ 2) : ∀ i, i < n → now i ≠ q :=
  fun i hi e => hq ((h.run q h1 h5).2 ⟨i, hi, e⟩)

theorem Inv.running {n : Nat} {now ph : Nat → Nat} {ow : Nat → Bool} {L : List (Int × Int)} (h : Inv n now ph ow L) {c : Nat} (hc : c < n) (hp : now c ≠ 0) : ph (now c) = 2 :=
  (h.run _ (by omega) (h.lt c hc)).2 ⟨c, hc, rfl⟩

theorem Inv.free {n : Nat} {now ph : Nat → Nat} {ow : Nat → Bool} {L : List (Int × Int)} (h : Inv n now ph ow L) {c : Nat} (hc : c < n) (hp : now c ≠ 0) : (now c : Int) ∉ L.map Prod.fst := by
  intro hm
  have := (h.blk _ (by omega) (h.lt c hc)).2 hm
  rw [h.running hc hp] at this
  omega

theorem Inv.owes {n : Nat} {now ph : Nat → Nat} {ow : Nat → Bool} {L : List (Int × Int)} (h : Inv n now ph ow L) (t : Nat) : Inv n now ph (up ow t true) L := by
  refine ⟨h.lt, h.one, h.run, h.blk, fun x hx => ?_, h.phr⟩
  obtain ⟨p, q, e, h1, h2, h3, h4, h5⟩ := h.rng x hx
  refine ⟨p, q, e, h1, h2, h3, h4, ?_⟩
  by_cases e : q = t
  · subst e; rw [up_same]
  · rw [up_other _ _ e]; exact h5

theorem Inv.runs {n : Nat} {now ph : Nat → Nat} {ow : Nat → Bool} {L : List (Int × Int)} (h : Inv n now ph ow L) {c q : Nat} (hc : c < n) (h0 : now c = 0) (h1 : 1 ≤ q) (h5 : q < 5) (hq : ph q ≠ 2) (hL : (q : Int) ∉ L.map Prod.fst) :
    Inv n (up now c q) (up ph q 2) ow L := by
  refine ⟨lt_up h.lt h5, one_up h.one (.inr (h.nobody h1 h5 hq)), fun p hp hp5 => ?_, fun p hp hp5 => ?_, h.rng, fun p hp hp5 => ?_⟩
  · by_cases e : p = q
    · subst e; rw [up_same]; exact ⟨fun _ => run_new hc, fun _ => rfl⟩
    · rw [up_other _ _ e, run_swap hc p (by omega) e]; exact h.run p hp hp5
  · by_cases e : p = q
    · subst e; rw [up_same]; exact ⟨fun h => by omega, fun hm => absurd hm hL⟩
    · rw [up_other _ _ e]; exact h.blk p hp hp5
  · by_cases e : p = q
    · subst e; rw [up_same]; omega
    · rw [up_other _ _ e]; exact h.phr p hp hp5

theorem Inv.call0 {n : Nat} {now ph : Nat → Nat} {ow : Nat → Bool} {L : List (Int × Int)} (h : Inv n now ph ow L) {c t : Nat} (hc : c < n) (h0 : now c = 0) (h1 : 1 ≤ t) (h5 : t < 5) (ht : ph t = 1) :
    Inv n (up now c t) (up ph t 2) (up ow t true) L :=
  (h.runs hc h0 h1 h5 (by omega) (fun hm => by have := (h.blk t h1 h5).2 hm; omega)).owes t

theorem Inv.call {n : Nat} {now ph : Nat → Nat} {ow : Nat → Bool} {L : List (Int × Int)} (h : Inv n now ph ow L) {c t : Nat} (hc : c < n) (h0 : now c ≠ 0) (h1 : 1 ≤ t) (h5 : t < 5) (ht : ph t = 1) :
    Inv n (up now c t) (up (up ph (now c) 3) t 2) (up ow t true) (((now c : Int), (t : Int)) :: L) := by
  have hp2 := h.running hc h0
  have hp5 := h.lt c hc
  have hne : t ≠ now c := fun e => by rw [e] at ht; omega
  have hno := h.nobody h1 h5 (by omega)
  refine ⟨lt_up h.lt h5, one_up h.one (.inr hno), fun p hp hp5 => ?_, fun p hp hp5 => ?_, fun x hx => ?_, fun p hp hp5 => ?_⟩
  · by_cases e : p = t
    · subst e; rw [up_same]; exact ⟨fun _ => run_new hc, fun _ => rfl⟩
    · rw [up_other _ _ e]
      by_cases e2 : p = now c
      · subst e2; rw [up_same]; exact ⟨fun h => by omega, fun hx => absurd hx (run_old hc h.one h0 (Ne.symm hne))⟩
      · rw [up_other _ _ e2, run_swap hc p e2 e]; exact h.run p hp hp5
  · rw [List.map_cons, List.mem_cons]
    by_cases e : p = t
    · subst e
      rw [up_same]
      refine ⟨fun h => by omega, fun hm => ?_⟩
      rcases hm with hm | hm
      · have : p = now c := by omega
        exact absurd this hne
      · have := (h.blk p h1 h5).2 hm; omega
    · rw [up_other _ _ e]
      by_cases e2 : p = now c
      · subst e2; rw [up_same]; simp
      · rw [up_other _ _ e2, h.blk p hp hp5]
        exact ⟨.inr, fun hm => hm.resolve_left (by omega)⟩
  · rcases List.mem_cons.1 hx with rfl | hx
    · exact ⟨now c, t, rfl, by omega, hp5, h1, h5, up_same _ _ _⟩
    · exact (h.owes t).rng x hx
  · by_cases e : p = t
    · subst e; rw [up_same]; omega
    · rw [up_other _ _ e]
      by_cases e2 : p = now c
      · subst e2; rw [up_same]; omega
      · rw [up_other _ _ e2]; exact h.phr p hp hp5

theorem Inv.leave {n : Nat} {now ph : Nat → Nat} {ow : Nat → Bool} {L : List (Int × Int)} (h : Inv n now ph ow L) {c v : Nat} (hc : c < n) (h0 : now c ≠ 0) (hv : v = 1 ∨ v = 4 ∨ v = 5) :
    Inv n (up now c 0) (up ph (now c) v) ow L := by
  have hp2 := h.running hc h0
  have hfr := h.free hc h0
  refine ⟨lt_up h.lt (by omega), one_up h.one (.inl rfl), fun p hp hp5 => ?_, fun p hp hp5 => ?_, h.rng, fun p hp hp5 => ?_⟩
  · by_cases e2 : p = now c
    · subst e2; rw [up_same]; exact ⟨fun h => by omega, fun hx => absurd hx (run_old hc h.one h0 h0)⟩
    · rw [up_other _ _ e2, run_swap hc p e2 (by omega)]; exact h.run p hp hp5
  · by_cases e2 : p = now c
    · subst e2; rw [up_same]; exact ⟨fun h => by omega, fun hm => absurd hm hfr⟩
    · rw [up_other _ _ e2]; exact h.blk p hp hp5
  · by_cases e2 : p = now c
    · subst e2; rw [up_same]; omega
    · rw [up_other _ _ e2]; exact h.phr p hp hp5

theorem Inv.unowed {n : Nat} {now ph : Nat → Nat} {ow : Nat → Bool} {L : List (Int × Int)} (h : Inv n now ph ow L) {t : Nat} (ht : (t : Int) ∉ L.map Prod.snd) : Inv n now ph (up ow t false) L := by
  refine ⟨h.lt, h.one, h.run, h.blk, fun x hx => ?_, h.phr⟩
  obtain ⟨p, q, e, h1, h2, h3, h4, h5⟩ := h.rng x hx
  refine ⟨p, q, e, h1, h2, h3, h4, ?_⟩
  have e2 : q ≠ t := fun e2 => ht (List.mem_map.2 ⟨x, hx, by rw [e, e2]⟩)
  rw [up_other _ _ e2]; exact h5

theorem Inv.answer0 {n : Nat} {now ph : Nat → Nat} {ow : Nat → Bool} {L : List (Int × Int)} (h : Inv n now ph ow L) {c : Nat} (hc : c < n) (h0 : now c ≠ 0) (hL : (now c : Int) ∉ L.map Prod.snd) :
    Inv n (up now c 0) (up ph (now c) 1) (up ow (now c) false) L := (h.leave hc h0 (.inl rfl)).unowed hL

theorem Inv.answer {n : Nat} {now ph : Nat → Nat} {ow : Nat → Bool} {L : List (Int × Int)} (h : Inv n now ph ow L) {c a : Nat} (hc : c < n) (h0 : now c ≠ 0) (hm : ((a : Int), (now c : Int)) ∈ L)
    (hn : (L.map Prod.fst).Nodup) (hs : (L.map Prod.snd).Nodup) : 1 ≤ a ∧ a < 5 ∧ a ≠ now c ∧ ph a = 3 ∧
    Inv n (up now c a) (up (up ph (now c) 1) a 2) (up ow (now c) false) (cutTo L (now c)) := by
  have hp2 := h.running hc h0
  have hfr := h.free hc h0
  obtain ⟨p', q', e', ha1, ha5, -⟩ := h.rng _ hm
  obtain rfl : a = p' := by simp only [Prod.mk.injEq] at e'; omega
  have hmf : (a : Int) ∈ L.map Prod.fst := List.mem_map.2 ⟨_, hm, rfl⟩
  have ha3 : ph a = 3 := (h.blk a ha1 ha5).2 hmf
  have hne : a ≠ now c := fun e => by rw [e] at ha3; omega
  have hno := h.nobody ha1 ha5 (by omega)
  refine ⟨ha1, ha5, hne, ha3, lt_up h.lt ha5, one_up h.one (.inr hno), fun p hp hp5 => ?_, fun p hp hp5 => ?_, fun x hx => ?_, fun p hp hp5 => ?_⟩
  · by_cases e : p = a
    · subst e; rw [up_same]; exact ⟨fun _ => run_new hc, fun _ => rfl⟩
    · rw [up_other _ _ e]
      by_cases e2 : p = now c
      · subst e2; rw [up_same]; exact ⟨fun h => by omega, fun hx => absurd hx (run_old hc h.one h0 (Ne.symm hne))⟩
      · rw [up_other _ _ e2, run_swap hc p e2 e]; exact h.run p hp hp5
  · have hcut : (p : Int) ∈ (cutTo L (now c)).map Prod.fst ↔ (p : Int) ∈ L.map Prod.fst ∧ p ≠ a := by
      rw [List.mem_map, List.mem_map]
      constructor
      · rintro ⟨y, hy, ey⟩
        have hy' := List.mem_filter.1 hy
        refine ⟨⟨y, hy'.1, ey⟩, fun e => ?_⟩
        obtain ⟨y1, y2⟩ := y
        simp only at ey
        subst ey
        rw [e] at hy'
        have := fst_one hn hm hy'.1
        subst this
        simp at hy'
      · rintro ⟨⟨y, hy, ey⟩, hpa⟩
        refine ⟨y, List.mem_filter.2 ⟨hy, ?_⟩, ey⟩
        obtain ⟨y1, y2⟩ := y
        simp only at ey
        subst ey
        simp only [decide_eq_true_eq, ne_eq]
        intro e2
        subst e2
        have h1 := mem_back.2 hy
        have h2 := mem_back.2 hm
        have := fst_one (by rw [back_fst]; exact hs) h1 h2
        omega
    rw [hcut]
    by_cases e : p = a
    · subst e; rw [up_same]; simp
    · rw [up_other _ _ e]
      by_cases e2 : p = now c
      · subst e2; rw [up_same]; exact ⟨fun h => by omega, fun hx => absurd hx.1 hfr⟩
      · rw [up_other _ _ e2, h.blk p hp hp5]; exact ⟨fun h => ⟨h, e⟩, fun h => h.1⟩
  · have hx' := List.mem_filter.1 hx
    obtain ⟨p, q, e, h1, h2, h3, h4, h5⟩ := h.rng x hx'.1
    refine ⟨p, q, e, h1, h2, h3, h4, ?_⟩
    have e2 : q ≠ now c := fun e2 => by rw [e, e2] at hx'; simp at hx'
    rw [up_other _ _ e2]; exact h5
  · by_cases e : p = a
    · subst e; rw [up_same]; omega
    · rw [up_other _ _ e]
      by_cases e2 : p = now c
      · subst e2; rw [up_same]; omega
      · rw [up_other _ _ e2]; exact h.phr p hp hp5

/-- On how many of the first k processors a part runs. -/
def cnt (now : Nat → Nat) (p : Nat) : Nat → Nat
  | 0 => 0
  | k + 1 => cnt now p k + if now k = p then 1 else 0

theorem cnt_le (now : Nat → Nat) (p : Nat) : ∀ k, cnt now p k ≤ k
  | 0 => Nat.le_refl _
  | k + 1 => by have := cnt_le now p k; simp only [cnt]; split <;> omega

theorem cnt_none {now : Nat → Nat} {p : Nat} : ∀ {k : Nat}, (∀ i, i < k → now i ≠ p) → cnt now p k = 0
  | 0, _ => rfl
  | k + 1, h => by simp only [cnt]; rw [cnt_none fun i hi => h i (by omega), if_neg (h k (by omega))]

theorem cnt_some {now : Nat → Nat} {p : Nat} : ∀ {k : Nat}, (∀ i, i < k → ∀ j, j < k → now i = p → now j = p → i = j) → (∃ i, i < k ∧ now i = p) → cnt now p k = 1
  | 0, _, h => by obtain ⟨i, hi, _⟩ := h; omega
  | k + 1, h1, h => by
    obtain ⟨i, hi, e⟩ := h
    simp only [cnt]
    by_cases hk : now k = p
    · rw [if_pos hk, cnt_none fun j hj e2 => by have := h1 j (by omega) k (by omega) e2 hk; omega]
    · rw [if_neg hk, cnt_some (fun i hi j hj => h1 i (by omega) j (by omega)) ⟨i, by rcases Nat.lt_or_ge i k with h | h; exact h; exact absurd (by rw [← e]; congr 1; omega) hk, e⟩]

theorem Inv.count {n : Nat} {now ph : Nat → Nat} {ow : Nat → Bool} {L : List (Int × Int)} (h : Inv n now ph ow L) {p : Nat} (h1 : 1 ≤ p) (h5 : p < 5) :
    (ph p = 2 ∧ cnt now p n = 1 ∧ ∃ i, i < n ∧ now i = p ∧ ∀ j, j < n → now j = p → j = i) ∨ (ph p ≠ 2 ∧ cnt now p n = 0 ∧ ∀ i, i < n → now i ≠ p) := by
  by_cases h2 : ph p = 2
  · obtain ⟨i, hi, e⟩ := (h.run p h1 h5).1 h2
    exact .inl ⟨h2, cnt_some (fun i hi j hj e1 e2 => h.one i hi j hj (by omega) (by omega)) ⟨i, hi, e⟩, i, hi, e, fun j hj e2 => h.one j hj i hi (by omega) (by omega)⟩
  · exact .inr ⟨h2, cnt_none (h.nobody h1 h5 h2), h.nobody h1 h5 h2⟩

end Go.Proofs.Ythhfokbfdeghpaa
