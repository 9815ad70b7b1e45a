/-
  Facts on unknown numbers: what an operator answers of an unknown number and a known one.
-/
import Derived.Test.YtonbcchdaboigaaAm22
namespace Go.Am
open Go Go.RowKit
set_option linter.unusedVariables false

section
variable {P : Program} {σ : Syms}

def binFacts (F : BinOp → Nat → IntKind → Int → Option Value) : Facts := fun op vs => match op, vs with
  | .binOp bop _ _ _ _, [.sym i, .lit (.int k d)] => match F bop i k d with
    | some v => some (.lit v)
    | none => none
  | _, _ => none

theorem binFacts_ok {F : BinOp → Nat → IntKind → Int → Option Value}
    (h : ∀ bop i k d v, F bop i k d = some v → vOne v = true ∧ ∀ t w (ox oy : Operand), (do eqGuard bop t ox oy (.int (σ i).1 (σ i).2) (.int k d); binOp bop t (.int (σ i).1 (σ i).2) (.int k d) : Sem Value).run P w = .ok v w) : FactsOk P σ (binFacts F) := by
  intro op vs v hv ρ e w hr
  unfold binFacts at hv
  split at hv
  · rename_i bop t x y yt i k d
    split at hv
    · rename_i v' hF
      cases hv
      obtain ⟨h1, h2⟩ := h bop i k d v' hF
      have hop : (Op.binOp bop t x y yt).operands.toList.map e = [e x, e y] := by simp [Op.operands]
      rw [hop] at hr
      obtain ⟨u1, r1, e1, hu1, u2, r2, e2, ⟨hu2, _⟩, e3⟩ := hr
      cases e1
      cases e2
      replace hu1 : e x = .int (σ i).1 (σ i).2 := hu1
      refine ⟨v', fun o ho => ?_, rfl, h1⟩
      have h3 := h2 t w x y
      unfold execOp
      rw [ho]
      simp only []
      rw [hu1, hu2, Sem.run_bind, h3]
      rfl
    · cases hv
  · cases hv

theorem rem_run {k : IntKind} {a d : Int} (hd : d ≠ 0) (t : TypeId) (w : World) (ox oy : Operand) :
    (do eqGuard .rem t ox oy (.int k a) (.int k d); binOp .rem t (.int k a) (.int k d) : Sem Value).run P w = .ok (.int k (a.tmod d)) w := by
  rw [Sem.run_bind]
  have : (eqGuard .rem t ox oy (.int k a) (.int k d)).run P w = .ok () w := by simp [eqGuard]
  rw [this, Result.andThen_ok, binOp_rem]
  simp [Op.intDiv, hd]

end
end Go.Am
