/-
  A run of the machine that is true, where some calls are looked at in every order: the call is.
-/
import Derived.Test.YthhfokbfdeghpaaBase
import Derived.Test.YthhfokbfdeghpaaAm27
namespace Go.Proofs.Ythhfokbfdeghpaa
open Go Go.RowKit Go.Am
set_option linter.unusedVariables false

/-- Some functions by looking at every order. -/
noncomputable def exploring (inner : Prims) (n room : Nat) (l : List Nat) : Prims := fun f => bif l.any (Nat.beq f) then some (exploreX Try.prog inner n room f) else inner f

theorem exploring_ok {σ : Syms} {N0 : Nat} {w0 : World} {inner : Prims} {n room : Nat} {l : List Nat} (hi : ∀ f p, inner f = some p → PrimOk Try.prog σ N0 w0 f p) (hl : l.all (plainFn Try.prog) = true) :
    ∀ f p, exploring inner n room l f = some p → PrimOk Try.prog σ N0 w0 f p := by
  intro f p h
  unfold exploring at h
  cases hq : l.any (Nat.beq f) with
  | false => rw [hq, cond_false] at h; exact hi f p h
  | true =>
    rw [hq, cond_true] at h
    cases h
    obtain ⟨x, hx, hxf⟩ := List.any_eq_true.1 hq
    have := Nat.eq_of_beq_eq_true hxf
    subst this
    exact exploreX_ok (by kernel_rfl) hi (List.all_eq_true.1 hl _ hx)

end Go.Proofs.Ythhfokbfdeghpaa
