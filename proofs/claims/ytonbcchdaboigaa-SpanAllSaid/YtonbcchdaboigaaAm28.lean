/-
  Facts on unknown numbers whose bounds are known: comparisons, the lesser and the greater one.
-/
import Derived.Test.YtonbcchdaboigaaAm27
namespace Go.Am
open Go Go.RowKit
set_option linter.unusedVariables false

/-- The kind and the bounds of an unknown number. -/
abbrev Bnds := Nat → Option (IntKind × Option Int × Option Int)

def geLo (lo : Option Int) (d : Int) : Bool := match lo with | some l => decide (d ≤ l) | none => false
def leHi (hi : Option Int) (d : Int) : Bool := match hi with | some h => decide (h ≤ d) | none => false

def yesNo (y n : Bool) : Option Bool := bif y then some true else bif n then some false else none

def cmpFact (bop : BinOp) (lo hi : Option Int) (d : Int) : Option Bool :=
  match bop with
  | .lss => yesNo (leHi hi (d - 1)) (geLo lo d)
  | .leq => yesNo (leHi hi d) (geLo lo (d + 1))
  | .gtr => yesNo (geLo lo (d + 1)) (leHi hi d)
  | .geq => yesNo (geLo lo d) (leHi hi (d - 1))
  | .eql => yesNo false (leHi hi (d - 1) || geLo lo (d + 1))
  | .neq => yesNo (leHi hi (d - 1) || geLo lo (d + 1)) false
  | _ => none

def maxFact (lo hi : Option Int) (i : Nat) (k : IntKind) (d : Int) : Option AVal := bif leHi hi d then some (.lit (.int k d)) else bif geLo lo d then some (.sym i) else none
def minFact (lo hi : Option Int) (i : Nat) (k : IntKind) (d : Int) : Option AVal := bif geLo lo d then some (.lit (.int k d)) else bif leHi hi d then some (.sym i) else none

def intFact (B : Bnds) (i : Nat) (k : IntKind) (f : Option Int → Option Int → Option AVal) : Option AVal :=
  match B i with
  | some (k', lo, hi) => bif decide (k = k') then f lo hi else none
  | none => none

def intFacts (B : Bnds) : Facts := fun op vs => match op, vs with
  | .binOp bop _ _ _ _, [.sym i, .lit (.int k d)] => intFact B i k fun lo hi => (cmpFact bop lo hi d).map fun b => .lit (.bool b)
  | .call ⟨.builtin .max, _, _⟩, [.sym i, .lit (.int k d)] => intFact B i k fun lo hi => maxFact lo hi i k d
  | .call ⟨.builtin .min, _, _⟩, [.sym i, .lit (.int k d)] => intFact B i k fun lo hi => minFact lo hi i k d
  | _, _ => none

section
variable {P : Program} {σ : Syms} {B : Bnds}

def BndsOk (σ : Syms) (B : Bnds) : Prop := ∀ i k lo hi, B i = some (k, lo, hi) → (σ i).1 = k ∧ (∀ l, lo = some l → l ≤ (σ i).2) ∧ (∀ h, hi = some h → (σ i).2 ≤ h)

theorem geLo_ok {lo : Option Int} {d a : Int} (h : geLo lo d = true) (hl : ∀ l, lo = some l → l ≤ a) : d ≤ a := by
  unfold geLo at h
  split at h
  · rename_i l
    have := hl l rfl
    have := of_decide_eq_true h
    omega
  · cases h

theorem leHi_ok {hi : Option Int} {d a : Int} (h : leHi hi d = true) (hl : ∀ l, hi = some l → a ≤ l) : a ≤ d := by
  unfold leHi at h
  split at h
  · rename_i l
    have := hl l rfl
    have := of_decide_eq_true h
    omega
  · cases h

theorem yesNo_ok {y n b : Bool} (h : yesNo y n = some b) : (b = true ∧ y = true) ∨ (b = false ∧ n = true) := by
  unfold yesNo at h
  cases y with
  | true => rw [cond_true] at h; cases h; exact .inl ⟨rfl, rfl⟩
  | false =>
    rw [cond_false] at h
    cases n with
    | true => rw [cond_true] at h; cases h; exact .inr ⟨rfl, rfl⟩
    | false => cases h

theorem cmp_run {bop : BinOp} {lo hi : Option Int} {k : IntKind} {a d : Int} {b : Bool} (h : cmpFact bop lo hi d = some b) (hl : ∀ l, lo = some l → l ≤ a) (hh : ∀ l, hi = some l → a ≤ l) (t : TypeId) (w : World) (ox oy : Operand) :
    (do eqGuard bop t ox oy (.int k a) (.int k d); binOp bop t (.int k a) (.int k d) : Sem Value).run P w = .ok (.bool b) w := by
  have g : ∀ (h2 : (binOp bop t (.int k a) (.int k d)).run P w = .ok (.bool b) w), (do eqGuard bop t ox oy (.int k a) (.int k d); binOp bop t (.int k a) (.int k d) : Sem Value).run P w = .ok (.bool b) w := fun h2 => by
    rw [Sem.run_bind]
    have : (eqGuard bop t ox oy (.int k a) (.int k d)).run P w = .ok () w := by
      unfold cmpFact at h
      split at h <;> first | (simp [eqGuard]; done) | cases h
    rw [this, Result.andThen_ok, h2]
  refine g ?_
  unfold cmpFact at h
  split at h
  · rw [binOp_lss, Sem.run_pure]
    rcases yesNo_ok h with ⟨rfl, q⟩ | ⟨rfl, q⟩
    · have := leHi_ok q hh; rw [show decide (a < d) = true from decide_eq_true (by omega)]
    · have := geLo_ok q hl; rw [show decide (a < d) = false from decide_eq_false (by omega)]
  · rw [binOp_leq, Sem.run_pure]
    rcases yesNo_ok h with ⟨rfl, q⟩ | ⟨rfl, q⟩
    · have := leHi_ok q hh; rw [show decide (a ≤ d) = true from decide_eq_true (by omega)]
    · have := geLo_ok q hl; rw [show decide (a ≤ d) = false from decide_eq_false (by omega)]
  · rw [binOp_gtr, Sem.run_pure]
    rcases yesNo_ok h with ⟨rfl, q⟩ | ⟨rfl, q⟩
    · have := geLo_ok q hl; rw [show decide (a > d) = true from decide_eq_true (by omega)]
    · have := leHi_ok q hh; rw [show decide (a > d) = false from decide_eq_false (by omega)]
  · rw [binOp_geq, Sem.run_pure]
    rcases yesNo_ok h with ⟨rfl, q⟩ | ⟨rfl, q⟩
    · have := geLo_ok q hl; rw [show decide (a ≥ d) = true from decide_eq_true (by omega)]
    · have := leHi_ok q hh; rw [show decide (a ≥ d) = false from decide_eq_false (by omega)]
  · rw [Go.binOp_eql, Sem.run_pure]
    rcases yesNo_ok h with ⟨_, q⟩ | ⟨rfl, q⟩
    · cases q
    · have hne : a ≠ d := by
        rcases (Bool.or_eq_true _ _).mp q with q | q
        · have := leHi_ok q hh; omega
        · have := geLo_ok q hl; omega
      rw [show (a == d) = false from by simpa using hne]
  · rw [binOp_neq, Sem.run_pure]
    rcases yesNo_ok h with ⟨rfl, q⟩ | ⟨_, q⟩
    · have hne : a ≠ d := by
        rcases (Bool.or_eq_true _ _).mp q with q | q
        · have := leHi_ok q hh; omega
        · have := geLo_ok q hl; omega
      rw [show (a != d) = true from by simpa using hne]
    · cases q
  · cases h

theorem intFact_ok {i : Nat} {k : IntKind} {f : Option Int → Option Int → Option AVal} {v : AVal} (hB : BndsOk σ B) (h : intFact B i k f = some v) :
    ∃ lo hi, (σ i).1 = k ∧ (∀ l, lo = some l → l ≤ (σ i).2) ∧ (∀ h, hi = some h → (σ i).2 ≤ h) ∧ f lo hi = some v := by
  unfold intFact at h
  split at h
  · rename_i k' lo hi hb
    cases hq : decide (k = k') with
    | false => rw [hq] at h; cases h
    | true =>
      rw [hq, cond_true] at h
      obtain ⟨h1, h2, h3⟩ := hB _ _ _ _ hb
      exact ⟨lo, hi, by rw [h1]; exact (of_decide_eq_true hq).symm, h2, h3, h⟩
  · cases h

theorem two_args {ρ : Ren} {i : Nat} {k : IntKind} {d : Int} {us : List Value} (h : VRels σ ρ [.sym i, .lit (.int k d)] us) : us = [.int (σ i).1 (σ i).2, .int k d] := by
  obtain ⟨u1, r1, e1, hu1, u2, r2, e2, ⟨hu2, _⟩, e3⟩ := h
  replace hu1 : u1 = .int (σ i).1 (σ i).2 := hu1
  rw [e1, e2, e3, hu1, hu2]

theorem intFacts_ok (hB : BndsOk σ B) : FactsOk P σ (intFacts B) := by
  intro op vs v hv ρ e w hr
  unfold intFacts at hv
  split at hv
  · rename_i bop t x y yt i k d
    obtain ⟨lo, hi, h1, h2, h3, h4⟩ := intFact_ok hB hv
    obtain ⟨b, h5, rfl⟩ := Option.map_eq_some_iff.1 h4
    have hop : (Op.binOp bop t x y yt).operands.toList.map e = [e x, e y] := by simp [Op.operands]
    rw [hop] at hr
    have hus := two_args hr
    simp only [List.cons.injEq, and_true] at hus
    refine ⟨.bool b, fun o ho => ?_, rfl, rfl⟩
    have h6 := cmp_run (P := P) (k := k) h5 h2 h3 t w x y
    unfold execOp
    rw [ho]
    simp only []
    rw [hus.1, hus.2, h1, Sem.run_bind, h6]
    rfl
  · rename_i as ts i k d
    obtain ⟨lo, hi, h1, h2, h3, h4⟩ := intFact_ok hB hv
    have hop : (Op.call ⟨.builtin .max, as, ts⟩).operands.toList.map e = (as.map e).toList := by simp [Op.operands, Call.operands]
    rw [hop] at hr
    have hus := two_args hr
    refine ⟨.int k (if d > (σ i).2 then d else (σ i).2), fun o ho => ?_, ?_⟩
    · unfold execOp
      rw [ho]
      show Sem.run P (do let d ← resolve e ⟨.builtin .max, as, ts⟩ o.type; invoke d.target d.args) w = _
      simp only [resolve, Sem.run_bind, Sem.run_pure, Result.andThen_ok, invoke]
      show Sem.run P (do pure (Next.value (← Builtin.max_ ts o.type (as.map e)))) w = _
      rw [Sem.run_bind]
      have : (Builtin.max_ ts o.type (as.map e)).run P w = .ok (.int k (if d > (σ i).2 then d else (σ i).2)) w := by
        simp only [Builtin.max_, hus, h1]
        rw [List.foldlM_cons, Sem.run_bind]
        rfl
      rw [this]
      rfl
    · unfold maxFact at h4
      cases hq : leHi hi d with
      | true =>
        rw [hq, cond_true] at h4
        cases h4
        have := leHi_ok hq h3
        refine ⟨?_, rfl⟩
        by_cases hd : d > (σ i).2
        · rw [if_pos hd]
        · rw [if_neg hd, show (σ i).2 = d by omega]
      | false =>
        rw [hq, cond_false] at h4
        cases hq2 : geLo lo d with
        | true =>
          rw [hq2, cond_true] at h4
          cases h4
          have := geLo_ok hq2 h2
          show _ = Value.int (σ i).1 (σ i).2
          rw [if_neg (by omega), h1]
        | false => rw [hq2] at h4; cases h4
  · rename_i as ts i k d
    obtain ⟨lo, hi, h1, h2, h3, h4⟩ := intFact_ok hB hv
    have hop : (Op.call ⟨.builtin .min, as, ts⟩).operands.toList.map e = (as.map e).toList := by simp [Op.operands, Call.operands]
    rw [hop] at hr
    have hus := two_args hr
    refine ⟨.int k (if d < (σ i).2 then d else (σ i).2), fun o ho => ?_, ?_⟩
    · unfold execOp
      rw [ho]
      show Sem.run P (do let d ← resolve e ⟨.builtin .min, as, ts⟩ o.type; invoke d.target d.args) w = _
      simp only [resolve, Sem.run_bind, Sem.run_pure, Result.andThen_ok, invoke]
      show Sem.run P (do pure (Next.value (← Builtin.min_ ts o.type (as.map e)))) w = _
      rw [Sem.run_bind]
      have : (Builtin.min_ ts o.type (as.map e)).run P w = .ok (.int k (if d < (σ i).2 then d else (σ i).2)) w := by
        simp only [Builtin.min_, hus, h1]
        rw [List.foldlM_cons, Sem.run_bind]
        rfl
      rw [this]
      rfl
    · unfold minFact at h4
      cases hq : geLo lo d with
      | true =>
        rw [hq, cond_true] at h4
        cases h4
        have := geLo_ok hq h2
        refine ⟨?_, rfl⟩
        by_cases hd : d < (σ i).2
        · rw [if_pos hd]
        · rw [if_neg hd, show (σ i).2 = d by omega]
      | false =>
        rw [hq, cond_false] at h4
        cases hq2 : leHi hi d with
        | true =>
          rw [hq2, cond_true] at h4
          cases h4
          have := leHi_ok hq2 h3
          show _ = Value.int (σ i).1 (σ i).2
          rw [if_neg (by omega), h1]
        | false => rw [hq2] at h4; cases h4
  · cases hv

end
end Go.Am
