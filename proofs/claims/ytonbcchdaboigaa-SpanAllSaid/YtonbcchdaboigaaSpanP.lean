/-
  Rows of pages, as lists: as few rows as may be of rising pages, and back again.
-/
import Derived.Test.YtonbcchdaboigaaGrow
namespace Go.Proofs.Ytonbcchdaboigaa
set_option linter.unusedVariables false

/-- One page more: it lengthens the last row, or begins one. -/
def stepS (R : List (Nat × Nat)) (p : Nat) : List (Nat × Nat) := match R.getLast? with
  | some r => if r.1 + r.2 = p then R.dropLast ++ [(r.1, r.2 + 1)] else R ++ [(p, 1)]
  | none => [(p, 1)]

/-- The rows of pages. -/
def rowsS (l : List Nat) : List (Nat × Nat) := l.foldl stepS []

/-- A row's pages. -/
def pagesR (r : Nat × Nat) : List Nat := (List.range r.2).map fun k => r.1 + k

/-- All pages of rows. -/
def pagesS (R : List (Nat × Nat)) : List Nat := R.flatMap pagesR

theorem pagesR_succ (a c : Nat) : pagesR (a, c + 1) = pagesR (a, c) ++ [a + c] := by simp [pagesR, List.range_succ]

theorem pagesS_append (R T : List (Nat × Nat)) : pagesS (R ++ T) = pagesS R ++ pagesS T := by simp [pagesS]

theorem pagesS_step (R : List (Nat × Nat)) (p : Nat) : pagesS (stepS R p) = pagesS R ++ [p] := by
  unfold stepS
  cases h : R.getLast? with
  | none =>
    have : R = [] := List.getLast?_eq_none_iff.1 h
    subst this
    simp [pagesS, pagesR]
  | some r =>
    have hR : R.dropLast ++ [r] = R := by
      obtain ⟨ys, rfl⟩ := List.getLast?_eq_some_iff.1 h
      simp
    show pagesS (if r.1 + r.2 = p then R.dropLast ++ [(r.1, r.2 + 1)] else R ++ [(p, 1)]) = pagesS R ++ [p]
    by_cases e : r.1 + r.2 = p
    · rw [if_pos e, pagesS_append]
      have h2 : pagesS R = pagesS R.dropLast ++ pagesS [r] := by rw [← pagesS_append, hR]
      rw [h2]
      obtain ⟨a, c⟩ := r
      simp only at e
      subst e
      simp [pagesS, pagesR_succ]
    · rw [if_neg e, pagesS_append]
      simp [pagesS, pagesR]

/-- The rows of pages are those pages, in order. -/
theorem pages_rows (l : List Nat) : pagesS (rowsS l) = l := by
  have : ∀ (l : List Nat) (R : List (Nat × Nat)), pagesS (l.foldl stepS R) = pagesS R ++ l := by
    intro l
    induction l with
    | nil => intro R; simp
    | cons x l ih => intro R; rw [List.foldl_cons, ih, pagesS_step]; simp
  have h := this l []
  simpa [rowsS, pagesS] using h

theorem rowsS_snoc (l : List Nat) (p : Nat) : rowsS (l ++ [p]) = stepS (rowsS l) p := by simp [rowsS, List.foldl_append]

theorem stepS_len (R : List (Nat × Nat)) (p : Nat) (h : ∀ r, R.getLast? = some r → r.1 + r.2 = p → R ≠ []) : (stepS R p).length = if (∃ r, R.getLast? = some r ∧ r.1 + r.2 = p) then R.length else R.length + 1 := by
  unfold stepS
  cases hl : R.getLast? with
  | none =>
    have : R = [] := List.getLast?_eq_none_iff.1 hl
    subst this
    simp
  | some r =>
    have hne : R ≠ [] := fun e => by rw [e] at hl; simp at hl
    have hpos : 0 < R.length := List.length_pos_iff.2 hne
    show (if r.1 + r.2 = p then R.dropLast ++ [(r.1, r.2 + 1)] else R ++ [(p, 1)]).length = _
    by_cases e : r.1 + r.2 = p
    · rw [if_pos e, if_pos ⟨r, rfl, e⟩]
      simp
      omega
    · rw [if_neg e, if_neg (fun ⟨r', h', e'⟩ => by cases h'; exact e e')]
      simp

/-- The last row ends behind the last page. -/
theorem rowsS_last (l : List Nat) (p : Nat) : ∃ r, (rowsS (l ++ [p])).getLast? = some r ∧ r.1 + r.2 = p + 1 ∧ 1 ≤ r.2 := by
  rw [rowsS_snoc]
  unfold stepS
  cases h : (rowsS l).getLast? with
  | none => exact ⟨(p, 1), by simp, rfl, by simp⟩
  | some r =>
    show ∃ r', (if r.1 + r.2 = p then (rowsS l).dropLast ++ [(r.1, r.2 + 1)] else rowsS l ++ [(p, 1)]).getLast? = some r' ∧ _
    by_cases e : r.1 + r.2 = p
    · rw [if_pos e]
      exact ⟨(r.1, r.2 + 1), by simp, by simp only; omega, by simp⟩
    · rw [if_neg e]
      exact ⟨(p, 1), by simp, rfl, by simp⟩

theorem snoc_ind {α : Type} {Q : List α → Prop} (h0 : Q []) (h : ∀ l x, Q l → Q (l ++ [x])) (l : List α) : Q l := by
  have : ∀ r : List α, Q r.reverse := by
    intro r
    induction r with
    | nil => exact h0
    | cons x r ih => rw [List.reverse_cons]; exact h _ _ ih
  simpa using this l.reverse

/-- Where a row begins. -/
def startS (l : List Nat) (x : Nat) : Bool := !(decide (1 ≤ x) && decide (x - 1 ∈ l))

theorem rising_snoc {l : List Nat} {p : Nat} : (l ++ [p]).Pairwise (· < ·) ↔ l.Pairwise (· < ·) ∧ ∀ x ∈ l, x < p := by
  rw [List.pairwise_append]
  simp

theorem ends_iff {l : List Nat} {p : Nat} (h : (l ++ [p]).Pairwise (· < ·)) : (∃ r, (rowsS l).getLast? = some r ∧ r.1 + r.2 = p) ↔ 1 ≤ p ∧ p - 1 ∈ l := by
  obtain ⟨hl, hp⟩ := rising_snoc.1 h
  rcases List.eq_nil_or_concat l with rfl | ⟨l', q, rfl⟩
  · simp [rowsS]
  · have hq : l'.concat q = l' ++ [q] := by simp
    rw [hq] at hl hp ⊢
    obtain ⟨hl', hq'⟩ := rising_snoc.1 hl
    obtain ⟨r, hr, he, _⟩ := rowsS_last l' q
    have hqp := hp q (by simp)
    rw [hr]
    constructor
    · rintro ⟨r', h1, h2⟩
      cases h1
      exact ⟨by omega, by rw [show p - 1 = q by omega]; simp⟩
    · rintro ⟨h1, h2⟩
      refine ⟨r, rfl, ?_⟩
      rcases List.mem_append.1 h2 with h2 | h2
      · have := hq' _ h2; omega
      · simp at h2; omega

/-- As many rows as beginnings. -/
theorem rowsS_len (l : List Nat) : l.Pairwise (· < ·) → (rowsS l).length = (l.filter (startS l)).length := by
  refine snoc_ind (Q := fun l => l.Pairwise (· < ·) → (rowsS l).length = (l.filter (startS l)).length) (fun _ => rfl) (fun l p ih h => ?_) l
  obtain ⟨hl, hp⟩ := rising_snoc.1 h
  have hold : l.filter (startS (l ++ [p])) = l.filter (startS l) := by
    refine List.filter_congr fun x hx => ?_
    have := hp x hx
    unfold startS
    have e : (x - 1 ∈ l ++ [p]) ↔ x - 1 ∈ l := by
      rw [List.mem_append, List.mem_singleton]
      exact ⟨fun h => h.resolve_right (by omega), .inl⟩
    simp only [e]
  have hnew : startS (l ++ [p]) p = !(decide (∃ r, (rowsS l).getLast? = some r ∧ r.1 + r.2 = p)) := by
    have e : (p - 1 ∈ l ++ [p] ∧ 1 ≤ p) ↔ (1 ≤ p ∧ p - 1 ∈ l) := by
      rw [List.mem_append, List.mem_singleton]
      constructor
      · rintro ⟨h1, h2⟩; exact ⟨h2, h1.resolve_right (by omega)⟩
      · rintro ⟨h1, h2⟩; exact ⟨.inl h2, h1⟩
    unfold startS
    rw [← Bool.decide_and]
    congr 1
    exact decide_eq_decide.2 (by rw [ends_iff h, ← e]; exact and_comm)
  rw [rowsS_snoc, stepS_len _ _ (fun r hr _ e => by rw [e] at hr; simp at hr), List.filter_append, List.length_append, hold, ih hl]
  simp only [List.filter_cons, List.filter_nil, hnew]
  by_cases hx : ∃ r, (rowsS l).getLast? = some r ∧ r.1 + r.2 = p
  · simp [hx]
  · simp [hx]

theorem mem_stepS {R : List (Nat × Nat)} {p : Nat} {x : Nat × Nat} (h : x ∈ stepS R p) : x ∈ R ∨ x = (p, 1) ∨ ∃ r ∈ R, x = (r.1, r.2 + 1) ∧ r.1 + r.2 = p := by
  unfold stepS at h
  cases hl : R.getLast? with
  | none => rw [hl] at h; exact .inr (.inl (by simpa using h))
  | some r =>
    rw [hl] at h
    have hr : r ∈ R := List.mem_of_getLast? hl
    replace h : x ∈ (if r.1 + r.2 = p then R.dropLast ++ [(r.1, r.2 + 1)] else R ++ [(p, 1)]) := h
    by_cases e : r.1 + r.2 = p
    · rw [if_pos e] at h
      rcases List.mem_append.1 h with h | h
      · exact .inl (List.dropLast_subset R h)
      · exact .inr (.inr ⟨r, hr, by simpa using h, e⟩)
    · rw [if_neg e] at h
      rcases List.mem_append.1 h with h | h
      · exact .inl h
      · exact .inr (.inl (by simpa using h))

/-- Each row has a page, and ends where pages end. -/
theorem rows_ok (l : List Nat) {m : Nat} : (∀ x ∈ l, x < m) → ∀ r ∈ rowsS l, 1 ≤ r.2 ∧ r.1 + r.2 ≤ m := by
  refine snoc_ind (Q := fun l => (∀ x ∈ l, x < m) → ∀ r ∈ rowsS l, 1 ≤ r.2 ∧ r.1 + r.2 ≤ m) (fun _ r hr => by simp [rowsS] at hr) (fun l p ih h r hr => ?_) l
  have hp := h p (by simp)
  rw [rowsS_snoc] at hr
  rcases mem_stepS hr with hr | rfl | ⟨r', hr', rfl, e⟩
  · exact ih (fun x hx => h x (by simp [hx])) r hr
  · exact ⟨by simp, by simp only; omega⟩
  · simp only; omega

theorem rows_nil {l : List Nat} : rowsS l = [] ↔ l = [] := by
  constructor
  · intro h
    have := pages_rows l
    rw [h] at this
    simpa [pagesS] using this.symm
  · rintro rfl; rfl

end Go.Proofs.Ytonbcchdaboigaa
