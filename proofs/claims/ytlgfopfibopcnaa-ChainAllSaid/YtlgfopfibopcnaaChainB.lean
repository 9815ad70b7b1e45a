/-
  begun of package chain.
-/
import Derived.Test.YtlgfopfibopcnaaExplore
import Derived.Test.YtlgfopfibopcnaaLinks3
import Derived.Maps.OwnSet
import Derived.Maps.RangeWalk
import Derived.WalkKit
namespace Go.Proofs.Ytlgfopfibopcnaa
open Go Go.RowKit Go.Maps Go.Am
set_option linter.unusedVariables false

noncomputable def linksPrims : Prims := fun f => bif Nat.beq f 49 then some linksA else none

theorem linksPrims_ok {σ : Syms} {N0 : Nat} {w0 : World} : ∀ f p, linksPrims f = some p → PrimOk Try.prog σ N0 w0 f p := by
  intro f p h
  unfold linksPrims at h
  cases hq : Nat.beq f 49 with
  | false => rw [hq] at h; cases h
  | true =>
    rw [hq, cond_true] at h
    have := Nat.eq_of_beq_eq_true hq
    subst this
    cases h
    exact linksA_ok

theorem begunChain_true (w : World) : Calls Try.prog 39 #[] w (fun e w' => e = .returned (.bool true) ∧ Below w.heap.size w w') :=
  calls_runP (σ := fun _ => (.i64, 0)) (n := 1000) (args := []) (us := #[]) w linksPrims_ok noFacts_ok (by kernel_rfl) rfl (by kernel_rfl)

end Go.Proofs.Ytlgfopfibopcnaa
