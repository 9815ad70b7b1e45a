/-
  SpanBack: the plain law.
-/
import Derived.Test.YtonbcchdaboigaaSpanX
namespace Go.Proofs.Ytonbcchdaboigaa
open Go Go.RowKit Go.Maps Go.Am
set_option linter.unusedVariables false

theorem rising_eq {L M : List Int} (hL : L.Pairwise (· < ·)) (hM : M.Pairwise (· < ·)) (h : ∀ k, k ∈ L ↔ k ∈ M) : L = M := by
  have hp : L.Perm M := (List.perm_ext_iff_of_nodup (hL.imp fun h => by omega) (hM.imp fun h => by omega)).2 h
  exact List.Perm.eq_of_pairwise (le := fun a b : Int => a ≤ b) (fun a b _ _ h1 h2 => Int.le_antisymm h1 h2) (hL.imp fun h => by omega) (hM.imp fun h => by omega) hp

/-- Is a page among them? -/
def inB (zs : List Int) (i : Nat) : Bool := decide ((i : Int) ∈ zs)

/-- The pages, rising, each once. -/
def pgF (zs : List Int) : List Nat := (List.range 300).filter (inB zs)

def castL (l : List Nat) : List Int := l.map fun k : Nat => (k : Int)

theorem castL_len (l : List Nat) : (castL l).length = l.length := by simp [castL]

theorem mem_castL {l : List Nat} {x : Int} : x ∈ castL l ↔ 0 ≤ x ∧ x.toNat ∈ l := by
  unfold castL
  rw [List.mem_map]
  constructor
  · rintro ⟨k, hk, rfl⟩; exact ⟨by omega, by simpa using hk⟩
  · rintro ⟨h0, h⟩; exact ⟨x.toNat, h, by omega⟩

theorem pgF_rises (zs : List Int) : (pgF zs).Pairwise (· < ·) := List.pairwise_lt_range.filter _

theorem castL_rises {l : List Nat} (h : l.Pairwise (· < ·)) : (castL l).Pairwise (· < ·) := List.pairwise_map.2 (h.imp fun h => by omega)

theorem mem_pgF {zs : List Int} {i : Nat} : i ∈ pgF zs ↔ i < 300 ∧ (i : Int) ∈ zs := by
  unfold pgF inB
  rw [List.mem_filter, List.mem_range, decide_eq_true_eq]

theorem tidy_pgF {zs : List Int} (h : ∀ x ∈ zs, 0 ≤ x ∧ x < 300) : tidy zs = castL (pgF zs) := by
  refine rising_eq (tidy_rises zs).1 (castL_rises (pgF_rises zs)) fun x => ?_
  rw [(tidy_rises zs).2, mem_castL, mem_pgF]
  constructor
  · intro hx
    have := h x hx
    have e : ((x.toNat : Nat) : Int) = x := by omega
    exact ⟨this.1, by omega, by rw [e]; exact hx⟩
  · rintro ⟨h0, _, h2⟩
    have e : ((x.toNat : Nat) : Int) = x := by omega
    rwa [e] at h2

theorem pgs_cast {l : List Nat} (h : ∀ x ∈ l, x < 4096) : pgs (castL l) = l := by
  induction l with
  | nil => rfl
  | cons a l ih =>
    have ha := h a (by simp)
    have := ih (fun x hx => h x (by simp [hx]))
    unfold pgs castL at *
    rw [List.map_cons, List.filter_cons]
    have e : decide ((0 : Int) ≤ (a : Int) ∧ (a : Int) < 4096) = true := by rw [decide_eq_true_eq]; omega
    rw [if_pos e, List.map_cons, this]
    simp

theorem pgF_lt {zs : List Int} : ∀ x ∈ pgF zs, x < 4096 := fun x hx => by have := (mem_pgF.1 hx).1; omega

theorem ofS_pgF {zs : List Int} (h : ∀ x ∈ zs, 0 ≤ x ∧ x < 300) : ofS zs = rowsS (pgF zs) := by
  unfold ofS
  rw [tidy_pgF h, pgs_cast pgF_lt]

theorem pgF_cast {zs : List Int} (h : ∀ x ∈ zs, 0 ≤ x ∧ x < 300) : pgF (castL (pgF zs)) = pgF zs := by
  unfold pgF
  refine List.filter_congr fun i hi => ?_
  have hi' := List.mem_range.1 hi
  unfold inB
  refine decide_eq_decide.2 ?_
  rw [mem_castL, List.mem_filter, List.mem_range]
  simp only [decide_eq_true_eq]
  constructor
  · rintro ⟨_, _, h2⟩; simpa using h2
  · intro h2; exact ⟨by omega, by simpa using hi', by simpa using h2⟩

theorem ofS_back {zs : List Int} (h : ∀ x ∈ zs, 0 ≤ x ∧ x < 300) : ofS (castL (pgF zs)) = ofS zs := by
  have h2 : ∀ x ∈ castL (pgF zs), 0 ≤ x ∧ x < 300 := fun x hx => by
    obtain ⟨h0, h1⟩ := mem_castL.1 hx
    have := (mem_pgF.1 h1).1
    omega
  rw [ofS_pgF h2, ofS_pgF h, pgF_cast h]

/-! ### How many -/
theorem countP_or {α : Type} (p q : α → Bool) : ∀ (l : List α), (∀ x ∈ l, ¬ (p x = true ∧ q x = true)) → l.countP (fun x => p x || q x) = l.countP p + l.countP q
  | [], _ => rfl
  | a :: l, h => by
    have ih := countP_or p q l (fun x hx => h x (by simp [hx]))
    have ha := h a (by simp)
    rw [List.countP_cons, List.countP_cons, List.countP_cons, ih]
    cases hp : p a <;> cases hq : q a <;> simp_all <;> omega

theorem count_one (x : Nat) : ∀ n, (List.range n).countP (fun i => decide (i = x)) = if x < n then 1 else 0
  | 0 => by simp
  | n + 1 => by
    rw [List.range_succ, List.countP_append, count_one x n]
    by_cases h : n = x
    · subst h; simp
    · by_cases h2 : x < n
      · have h3 : x < n + 1 := by omega
        simp [h, h2, h3]
      · have h3 : ¬ x < n + 1 := by omega
        simp [h, h2, h3]

theorem pgF_len_new {l : List Int} {x : Nat} (hx : x < 300) (hn : (x : Int) ∉ l) : (pgF (l ++ [(x : Int)])).length = (pgF l).length + 1 := by
  unfold pgF
  rw [← List.countP_eq_length_filter, ← List.countP_eq_length_filter]
  have e : (List.range 300).countP (inB (l ++ [(x : Int)])) = (List.range 300).countP (fun i => inB l i || decide (i = x)) := by
    refine List.countP_congr fun i hi => ?_
    unfold inB
    simp only [Bool.or_eq_true, decide_eq_true_eq, List.mem_append, List.mem_singleton]
    constructor
    · rintro (h | h); exact .inl h; exact .inr (by omega)
    · rintro (h | h); exact .inl h; exact .inr (by omega)
  rw [e, countP_or _ _ _ (fun i hi => by
    unfold inB
    rintro ⟨h1, h2⟩
    rw [decide_eq_true_eq] at h1 h2
    subst h2; exact hn h1)]
  congr 1
  rw [count_one, if_pos hx]

theorem pgF_old {l : List Int} {x : Int} (hn : x ∈ l) : pgF (l ++ [x]) = pgF l := by
  unfold pgF
  refine List.filter_congr fun i hi => ?_
  unfold inB
  refine decide_eq_decide.2 ?_
  rw [List.mem_append, List.mem_singleton]
  constructor
  · rintro (h | rfl); exact h; exact hn
  · exact .inl

/-- Where a row begins, as the statement reckons it. -/
def startB (zs : List Int) (i : Nat) : Bool := inB zs i && (decide (i = 0) || !inB zs (i - 1))

theorem rows_len {zs : List Int} : (rowsS (pgF zs)).length = ((List.range 300).filter (startB zs)).length := by
  rw [rowsS_len _ (pgF_rises zs)]
  have : (pgF zs).filter (startS (pgF zs)) = (List.range 300).filter (startB zs) := by
    unfold pgF
    rw [List.filter_filter]
    refine List.filter_congr fun i hi => ?_
    have hi' := List.mem_range.1 hi
    unfold startB
    rw [Bool.and_comm]
    cases hb : inB zs i with
    | false => rfl
    | true =>
      rw [Bool.true_and, Bool.true_and]
      unfold startS
      by_cases h0 : i = 0
      · subst h0; rfl
      · have e : (i - 1 ∈ (List.range 300).filter (inB zs)) ↔ inB zs (i - 1) = true := by
          rw [List.mem_filter, List.mem_range]
          exact ⟨fun h => h.2, fun h => ⟨by omega, h⟩⟩
        rw [decide_eq_false h0, decide_eq_true (show 1 ≤ i by omega), Bool.false_or, Bool.true_and]
        cases hb2 : inB zs (i - 1) with
        | true => rw [decide_eq_true (e.2 hb2)]
        | false => rw [decide_eq_false (fun h => by rw [e] at h; rw [hb2] at h; cases h)]
  rw [this]

theorem starts_succ (zs : List Int) (j : Nat) : ((List.range (j + 1)).filter (startB zs)).length = ((List.range j).filter (startB zs)).length + (if startB zs j = true then 1 else 0) := by
  rw [List.range_succ, List.filter_append, List.length_append]
  congr 1
  by_cases h : startB zs j = true <;> simp [h]

/-! ### Rows as pairs of numbers -/
def asI (R : List (Nat × Nat)) : List (Int × Int) := R.map fun r => ((r.1 : Int), (r.2 : Int))

theorem asI_len (R : List (Nat × Nat)) : (asI R).length = R.length := by simp [asI]

theorem rowK_cast (a c : Nat) : rowK (a : Int) c = castL (pagesR (a, c)) := by
  unfold rowK castL pagesR
  rw [List.map_map]
  refine List.map_congr_left fun i hi => ?_
  simp

theorem pagesG_rows : ∀ (R : List (Nat × Nat)) (out : List Int), (∀ r ∈ R, 1 ≤ r.2 ∧ r.1 + r.2 ≤ 4096) → out.length + (pagesS R).length ≤ 40 → (out ++ castL (pagesS R)).Nodup → pagesG (asI R) out = some (out ++ castL (pagesS R))
  | [], out, _, _, _ => by simp [asI, pagesG, pagesS, castL]
  | r :: R, out, h, hl, hn => by
    obtain ⟨a, c⟩ := r
    have hr := h (a, c) (by simp)
    have e1 : pagesS ((a, c) :: R) = pagesR (a, c) ++ pagesS R := by simp [pagesS]
    have e2 : castL (pagesR (a, c) ++ pagesS R) = castL (pagesR (a, c)) ++ castL (pagesS R) := by simp [castL]
    have e3 : (pagesR (a, c)).length = c := by simp [pagesR]
    rw [e1] at hl hn ⊢
    rw [e2, ← List.append_assoc] at hn ⊢
    rw [List.length_append, e3] at hl
    have hok : okG out ((a : Int), (c : Int)) = true := by
      refine okG_iff.2 ⟨?_, ?_, ?_, ?_, fun k hk hin => ?_⟩
      · simp only at hr ⊢; omega
      · simp only at hr ⊢; omega
      · simp only; omega
      · simp only at hr ⊢; omega
      · simp only at hk hin
        have h1 := (List.nodup_append.1 (List.nodup_append.1 hn).1).2.2 _ hin
        refine h1 ((a : Int) + k) ?_ rfl
        rw [← rowK_cast, mem_rowK]
        omega
    have e4 : asI ((a, c) :: R) = ((a : Int), (c : Int)) :: asI R := rfl
    rw [e4, pagesG_yes hok]
    have e5 : rowK ((a : Int), (c : Int)).1 ((a : Int), (c : Int)).2.toNat = castL (pagesR (a, c)) := by
      rw [← rowK_cast]; simp
    rw [e5]
    refine pagesG_rows R _ (fun r hr => h r (by simp [hr])) ?_ hn
    rw [List.length_append, castL_len, e3]
    omega

theorem pagesT_rows {P : List Nat} (hr : P.Pairwise (· < ·)) (hlt : ∀ x ∈ P, x < 4096) (hl : P.length ≤ 40) : pagesT (asI (rowsS P)) = if 1 ≤ (rowsS P).length ∧ (rowsS P).length ≤ 8 then some (castL P) else none := by
  unfold pagesT
  rw [asI_len]
  by_cases h : 1 ≤ (rowsS P).length ∧ (rowsS P).length ≤ 8
  · rw [if_pos h, if_pos h, pagesG_rows _ [] (rows_ok P hlt) (by rw [pages_rows]; simpa using hl) (by
      rw [pages_rows, List.nil_append]
      exact (castL_rises hr).imp fun h => by omega), pages_rows, List.nil_append]
  · rw [if_neg h, if_neg h]

theorem pgF_len_le (zs : List Int) : (pgF zs).length ≤ zs.length := by
  refine snoc_ind (Q := fun l => (∀ x ∈ l, True) → (pgF l).length ≤ l.length) (fun _ => by simp [pgF, inB]) (fun l x ih _ => ?_) zs (fun _ _ => trivial)
  have := ih (fun _ _ => trivial)
  rw [List.length_append, List.length_singleton]
  by_cases hm : x ∈ l
  · rw [pgF_old hm]; omega
  · by_cases h0 : 0 ≤ x ∧ x < 300
    · have e : ((x.toNat : Nat) : Int) = x := by omega
      have := pgF_len_new (l := l) (x := x.toNat) (by omega) (by rw [e]; exact hm)
      rw [e] at this
      omega
    · have e : pgF (l ++ [x]) = pgF l := by
        unfold pgF
        refine List.filter_congr fun i hi => ?_
        have := List.mem_range.1 hi
        unfold inB
        refine decide_eq_decide.2 ?_
        rw [List.mem_append, List.mem_singleton]
        constructor
        · rintro (h | h); exact h; omega
        · exact .inl
      rw [e]; omega

end Go.Proofs.Ytonbcchdaboigaa
