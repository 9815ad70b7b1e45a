/-
  Package bell's methods, as what they answer and what is behind them.
-/
import Derived.Test.YtlgfopfibopcnaaBellR
namespace Go.Proofs.Ytlgfopfibopcnaa
open Go Go.RowKit Go.Maps Go.Am Go.Sort
set_option linter.unusedVariables false

theorem wMake (B b i : Nat) (p : List PB) (F : List Nat) (who : Int) (w : World) (h : BOk w B b i p F) (hk : (Lit.int .i64 who).wf = true) (hi : i ≤ 900) :
    Calls Try.prog 55 #[.pointer (some ⟨B, 0, none⟩), .int .i64 who] w fun r w' => r = .returned (.int .i64 (makeF p who).1) ∧ Went w B b i F (makeF p who).2 w' := by
  obtain ⟨n, l, hB, hn, hl, rfl, rfl⟩ := h.ex
  rcases find_cases l who with ⟨hno, hf0⟩ | ⟨e, he, rfl, hf0⟩
  · have hx : makeF (l.map pureB) who = (0, l.map pureB ++ [⟨who, fun _ => 0, 0, false⟩]) := by unfold makeF; rw [hf0]
    rw [hx]
    refine (make_calls B b n l who w hB hno hk (by omega)).mono ?_
    rintro r w' ⟨rfl, S, f, hB', hS, hf, hg⟩
    refine ⟨rfl, _, ⟨n + 1, _, hB', by omega, fun x hx => ?_, by simp [pureB, newB], rfl⟩, hg.mono (by simp [footB]), fun y hy => ?_⟩
    · rcases List.mem_append.1 hx with hx | hx
      · have := hl x hx
        exact ⟨by omega, this.2⟩
      · simp at hx
        subst hx
        exact ⟨Nat.zero_le _, hk⟩
    · rcases mem_footB.1 hy with h1 | h1 | ⟨x, hx, hy⟩
      · exact .inl (mem_footB.2 (.inl h1))
      · exact .inl (mem_footB.2 (.inr (.inl h1)))
      · rcases List.mem_append.1 hx with hx | hx
        · exact .inl (mem_footB.2 (.inr (.inr ⟨x, hx, hy⟩)))
        · simp at hx
          subst hx
          simp only [newB] at hy
          right
          omega
  · have hx : makeF (l.map pureB) e.who = (-6, l.map pureB) := by unfold makeF; rw [hf0]
    rw [hx]
    exact (make_has B b n l e w hB he hk).mono fun r w' ⟨hr, hw⟩ => ⟨hr, by subst hw; exact h.stay (.refl _ _)⟩
theorem wUnmake (B b i : Nat) (p : List PB) (F : List Nat) (who : Int) (w : World) (h : BOk w B b i p F) (hk : (Lit.int .i64 who).wf = true) (hi : i ≤ 900) :
    Calls Try.prog 57 #[.pointer (some ⟨B, 0, none⟩), .int .i64 who] w fun r w' => r = .returned (.int .i64 (unmakeF p who).1) ∧ Went w B b i F (unmakeF p who).2 w' := by
  obtain ⟨n, l, hB, hn, hl, rfl, rfl⟩ := h.ex
  rcases find_cases l who with ⟨hno, hf0⟩ | ⟨e, he, rfl, hf0⟩
  · have hx : unmakeF (l.map pureB) who = (-6, l.map pureB) := by unfold unmakeF; rw [hf0]
    rw [hx]
    exact (unmake_none B b n l who w hB hno hk).mono fun r w' ⟨hr, hw⟩ => ⟨hr, by subst hw; exact h.stay (.refl _ _)⟩
  · have hor := (hB.sets e he).orOf
    have hen := (hl e he).1
    by_cases h0 : orAll e.K e.fr = 0
    · have hx : unmakeF (l.map pureB) e.who = (0, (l.map pureB).filter fun x => decide (x.who ≠ e.who)) := by
        unfold unmakeF
        rw [hf0]
        show (if orOf e.fr = 0 then _ else _) = _
        rw [hor, if_pos h0]
      rw [hx]
      refine (unmake_calls B b n l e w hB he hk h0 (by omega)).mono ?_
      rintro r w' ⟨rfl, hB', hg⟩
      refine ⟨rfl, _, ⟨n, _, hB', by omega, fun x hx => ?_, ?_, rfl⟩, hg.mono (by simp [footB]), fun y hy => ?_⟩
      · have := hl x (List.mem_filter.1 hx).1
        exact ⟨by omega, this.2⟩
      · rw [List.filter_map]
        rfl
      · left
        rcases mem_footB.1 hy with h1 | h1 | ⟨x, hx, hy⟩
        · exact mem_footB.2 (.inl h1)
        · exact mem_footB.2 (.inr (.inl h1))
        · exact mem_footB.2 (.inr (.inr ⟨x, (List.mem_filter.1 hx).1, hy⟩))
    · have hx : unmakeF (l.map pureB) e.who = (-6, l.map pureB) := by
        unfold unmakeF
        rw [hf0]
        show (if orOf e.fr = 0 then _ else _) = _
        rw [hor, if_neg h0]
      rw [hx]
      exact (unmake_bound B b n l e w hB he hk h0 (by omega)).mono fun r w' ⟨hr, hg⟩ => ⟨hr, h.stay hg⟩
theorem wBind (B b i : Nat) (p : List PB) (F : List Nat) (who from_ : Int) (bits : Nat) (w : World) (h : BOk w B b i p F) (hk : (Lit.int .i64 who).wf = true) (hf : (Lit.int .i64 from_).wf = true) (hb : bits < 18446744073709551616) (hi : i ≤ 900) :
    Calls Try.prog 59 #[.pointer (some ⟨B, 0, none⟩), .int .i64 who, .int .i64 from_, .int .u64 bits] w fun r w' => r = .returned (.int .i64 (bindF p who from_ bits).1) ∧ Went w B b i F (bindF p who from_ bits).2 w' := by
  obtain ⟨n, l, hB, hn, hl, rfl, rfl⟩ := h.ex
  rcases find_cases l who with ⟨hno, hf0⟩ | ⟨e, he, rfl, hf0⟩
  · have hx : bindF (l.map pureB) who from_ bits = (-6, l.map pureB) := by unfold bindF; rw [hf0]
    rw [hx]
    exact (bind_none B b n l who from_ bits w hB hno hk).mono fun r w' ⟨hr, hw⟩ => ⟨hr, by subst hw; exact h.stay (.refl _ _)⟩
  · have hor := (hB.sets e he).orOf
    have hen := (hl e he).1
    by_cases hb0 : bits = 0
    · subst hb0
      have hx : bindF (l.map pureB) e.who from_ 0 = (-2, l.map pureB) := by
        unfold bindF
        rw [hf0]
        rfl
      rw [hx]
      exact (bind_zero B b n l e from_ w hB he hk).mono fun r w' ⟨hr, hw⟩ => ⟨hr, by subst hw; exact h.stay (.refl _ _)⟩
    by_cases h0 : orAll e.K e.fr &&& bits = 0
    · have hx : bindF (l.map pureB) e.who from_ bits = (0, updP (l.map pureB) e.who fun e => { e with fr := fun x => if x = from_ then e.fr from_ ||| bits else e.fr x }) := by
        unfold bindF
        rw [hf0]
        show (if bits = 0 then _ else if orOf e.fr &&& bits = 0 then _ else _) = _
        rw [hor, if_neg hb0, if_pos h0]
      rw [hx]
      refine (bind_calls B b n l e from_ bits w hB he hk hf hb hb0 h0 (by omega)).mono ?_
      rintro r w' ⟨rfl, hB', hg⟩
      exact ⟨rfl, Went.turn hl he (bindB from_ bits) _ (fun _ => rfl) (fun _ => ⟨rfl, rfl, rfl⟩) (fun _ => Nat.le_refl _) hB' (by omega) hg (by simp)⟩
    · have hx : bindF (l.map pureB) e.who from_ bits = (-6, l.map pureB) := by
        unfold bindF
        rw [hf0]
        show (if bits = 0 then _ else if orOf e.fr &&& bits = 0 then _ else _) = _
        rw [hor, if_neg hb0, if_neg h0]
      rw [hx]
      exact (bind_denied B b n l e from_ bits w hB he hk hb hb0 h0 (by omega)).mono fun r w' ⟨hr, hg⟩ => ⟨hr, h.stay hg⟩
theorem wUnbind (B b i : Nat) (p : List PB) (F : List Nat) (who from_ : Int) (bits : Nat) (w : World) (h : BOk w B b i p F) (hk : (Lit.int .i64 who).wf = true) (hf : (Lit.int .i64 from_).wf = true) (hb : bits < 18446744073709551616) (hi : i ≤ 900) :
    Calls Try.prog 61 #[.pointer (some ⟨B, 0, none⟩), .int .i64 who, .int .i64 from_, .int .u64 bits] w fun r w' => r = .returned (.int .i64 (unbindF p who from_ bits).1) ∧ Went w B b i F (unbindF p who from_ bits).2 w' := by
  obtain ⟨n, l, hB, hn, hl, rfl, rfl⟩ := h.ex
  rcases find_cases l who with ⟨hno, hf0⟩ | ⟨e, he, rfl, hf0⟩
  · have hx : unbindF (l.map pureB) who from_ bits = (-6, l.map pureB) := by unfold unbindF; rw [hf0]
    rw [hx]
    exact (unbind_none B b n l who from_ bits w hB hno hk).mono fun r w' ⟨hr, hw⟩ => ⟨hr, by subst hw; exact h.stay (.refl _ _)⟩
  · have hen := (hl e he).1
    by_cases hb0 : bits = 0
    · subst hb0
      have hx : unbindF (l.map pureB) e.who from_ 0 = (-2, l.map pureB) := by
        unfold unbindF
        rw [hf0]
        rfl
      rw [hx]
      exact (unbind_zero B b n l e from_ w hB he hk).mono fun r w' ⟨hr, hw⟩ => ⟨hr, by subst hw; exact h.stay (.refl _ _)⟩
    have hx0 : unbindF (l.map pureB) e.who from_ bits = if bits &&& (18446744073709551615 - e.fr from_) = 0 then (if e.rung &&& bits = 0 then (0, updP (l.map pureB) e.who fun e => { e with fr := fun x => if x = from_ then e.fr from_ &&& (18446744073709551615 - bits) else e.fr x }) else (-4, l.map pureB)) else (-6, l.map pureB) := by
      unfold unbindF
      rw [hf0]
      show (if bits = 0 then _ else _) = _
      rw [if_neg hb0]
      rfl
    rw [hx0]
    by_cases h0 : bits &&& (18446744073709551615 - e.fr from_) = 0
    · rw [if_pos h0]
      by_cases h1 : e.rung &&& bits = 0
      · rw [if_pos h1]
        refine (unbind_calls B b n l e from_ bits w hB he hk hf hb hb0 h0 h1 (by omega)).mono ?_
        rintro r w' ⟨rfl, hB', hg⟩
        exact ⟨rfl, Went.turn hl he (unbindB from_ bits) _ (fun _ => rfl) (fun _ => ⟨rfl, rfl, rfl⟩) (fun _ => Nat.le_refl _) hB' (by omega) hg (by simp)⟩
      · rw [if_neg h1]
        exact (unbind_busy B b n l e from_ bits w hB he hk hf hb hb0 h0 h1).mono fun r w' ⟨hr, hw⟩ => ⟨hr, by subst hw; exact h.stay (.refl _ _)⟩
    · rw [if_neg h0]
      exact (unbind_denied B b n l e from_ bits w hB he hk hf hb hb0 h0).mono fun r w' ⟨hr, hw⟩ => ⟨hr, by subst hw; exact h.stay (.refl _ _)⟩
theorem wRing (B b i : Nat) (p : List PB) (F : List Nat) (who from_ : Int) (bits : Nat) (w : World) (h : BOk w B b i p F) (hk : (Lit.int .i64 who).wf = true) (hf : (Lit.int .i64 from_).wf = true) (hb : bits < 18446744073709551616) (hi : i ≤ 900) :
    Calls Try.prog 63 #[.pointer (some ⟨B, 0, none⟩), .int .i64 who, .int .i64 from_, .int .u64 bits] w fun r w' => r = .returned (.int .i64 (ringF p who from_ bits).1) ∧ Went w B b i F (ringF p who from_ bits).2 w' := by
  obtain ⟨n, l, hB, hn, hl, rfl, rfl⟩ := h.ex
  rcases find_cases l who with ⟨hno, hf0⟩ | ⟨e, he, rfl, hf0⟩
  · have hx : ringF (l.map pureB) who from_ bits = (-6, l.map pureB) := by unfold ringF; rw [hf0]
    rw [hx]
    exact (ring_none B b n l who from_ bits w hB hno hk).mono fun r w' ⟨hr, hw⟩ => ⟨hr, by subst hw; exact h.stay (.refl _ _)⟩
  · have hen := (hl e he).1
    by_cases hb0 : bits = 0
    · subst hb0
      have hx : ringF (l.map pureB) e.who from_ 0 = (-2, l.map pureB) := by
        unfold ringF
        rw [hf0]
        rfl
      rw [hx]
      exact (ring_zero B b n l e from_ w hB he hk).mono fun r w' ⟨hr, hw⟩ => ⟨hr, by subst hw; exact h.stay (.refl _ _)⟩
    have hx0 : ringF (l.map pureB) e.who from_ bits = if bits &&& (18446744073709551615 - e.fr from_) = 0 then (0, updP (l.map pureB) e.who fun e => { e with rung := e.rung ||| bits, fresh := true }) else (-6, l.map pureB) := by
      unfold ringF
      rw [hf0]
      show (if bits = 0 then _ else _) = _
      rw [if_neg hb0]
      rfl
    rw [hx0]
    by_cases h0 : bits &&& (18446744073709551615 - e.fr from_) = 0
    · rw [if_pos h0]
      refine (ring_calls B b n l e from_ bits w hB he hk hf hb hb0 h0).mono ?_
      rintro r w' ⟨rfl, hB', hg⟩
      exact ⟨rfl, Went.turn hl he (fun e => { e with rung := e.rung ||| bits, fresh := true }) _ (fun _ => rfl) (fun _ => ⟨rfl, rfl, rfl⟩) (fun _ => Nat.le_succ _) hB' (by omega) hg (by simp)⟩
    · rw [if_neg h0]
      exact (ring_denied B b n l e from_ bits w hB he hk hf hb hb0 h0).mono fun r w' ⟨hr, hw⟩ => ⟨hr, by subst hw; exact h.stay (.refl _ _)⟩
theorem wHear (B b i : Nat) (p : List PB) (F : List Nat) (who : Int) (w : World) (h : BOk w B b i p F) (hk : (Lit.int .i64 who).wf = true) (hi : i ≤ 900) :
    Calls Try.prog 65 #[.pointer (some ⟨B, 0, none⟩), .int .i64 who] w fun r w' => r = .returned (.tuple #[.int .u64 (hearF p who).1, .int .i64 (hearF p who).2.1]) ∧ Went w B b i F (hearF p who).2.2 w' := by
  obtain ⟨n, l, hB, hn, hl, rfl, rfl⟩ := h.ex
  rcases find_cases l who with ⟨hno, hf0⟩ | ⟨e, he, rfl, hf0⟩
  · have hx : hearF (l.map pureB) who = (0, -6, l.map pureB) := by unfold hearF; rw [hf0]
    rw [hx]
    exact (hear_none B b n l who w hB hno hk).mono fun r w' ⟨hr, hw⟩ => ⟨hr, by subst hw; exact h.stay (.refl _ _)⟩
  · have hen := (hl e he).1
    have hx : hearF (l.map pureB) e.who = (e.rung, 0, updP (l.map pureB) e.who fun e => { e with rung := 0, fresh := false }) := by
      unfold hearF
      rw [hf0]
      rfl
    rw [hx]
    refine (hear_calls B b n l e w hB he hk).mono ?_
    rintro r w' ⟨rfl, hB', hg⟩
    exact ⟨rfl, Went.turn hl he (fun e => { e with rung := 0, fresh := false }) _ (fun _ => rfl) (fun _ => ⟨rfl, rfl, rfl⟩) (fun _ => Nat.le_succ _) hB' (by omega) hg (by simp)⟩

theorem wBound (B b i : Nat) (p : List PB) (F : List Nat) (who from_ : Int) (w : World) (h : BOk w B b i p F) (hk : (Lit.int .i64 who).wf = true) (hf : (Lit.int .i64 from_).wf = true) :
    Calls Try.prog 69 #[.pointer (some ⟨B, 0, none⟩), .int .i64 who, .int .i64 from_] w fun r w' => r = .returned (.int .u64 (boundF p who from_)) ∧ w' = w := by
  obtain ⟨n, l, hB, hn, hl, rfl, rfl⟩ := h.ex
  rcases find_cases l who with ⟨hno, hf0⟩ | ⟨e, he, rfl, hf0⟩
  · have hx : boundF (l.map pureB) who from_ = 0 := by unfold boundF; rw [hf0]
    rw [hx]
    exact bound_none B b n l who from_ w hB hno hk
  · have hx : boundF (l.map pureB) e.who from_ = e.fr from_ := by
      unfold boundF
      rw [hf0]
      rfl
    rw [hx]
    exact boundOf_calls B b n l e from_ w hB he hk hf

end Go.Proofs.Ytlgfopfibopcnaa
