/-
  What no tree answers, and where there is none: the law GraftNone returns true of all numbers.
-/
import Derived.Test.YtibengibhihgpaaGraftMid0
import Derived.Test.YtibengibhihgpaaGraftMid1
import Derived.Test.YtibengibhihgpaaRows
import Derived.WalkKit
import Derived.ProofKit
import Derived.OpenShut
import Derived.ShutString
namespace Go.Proofs.Ytibengibhihgpaa.graftNone
open Go.ChangeShapes Go.WideShapes Go.ChangeAt Go.RowKit
set_option linter.unusedVariables false

theorem own : ownKnob Try.prog.godebug = none := by kernel_rfl

open Go.Am

theorem begun_calls (w : World) : Calls Try.prog 77 #[] w fun e w' => e = .returned (.bool true) ∧ Below w.heap.size w w' := by
  have hm : Try.prog.follows .mixedOrders = true := by kernel_rfl
  have hb : Try.f77.body = some (seqs pre post) := by kernel_rfl
  have hnt : Try.f77.ntmps = 95 := by kernel_rfl
  have hM : st1.next ≤ 1000000 := by
    have : Nat.ble st1.next 1000000 = true := by kernel_rfl
    exact Nat.le_of_ble_eq_true this
  have h2 := second
  unfold secondOk at h2
  split at h2
  · rename_i a s hrun
    split at h2
    · rename_i hres
      have hcall : CallTo 1000000 Try.prog (fun _ => (.i64, 0)) w.heap.size w 77 [] st0 (fun v _ => v = .lit (.bool true)) := by
        refine CallTo.body (fn := Try.f77) (body := seqs pre post) (t := .leaf) Try.func77 hb ⟨by kernel_rfl, by kernel_rfl⟩ (fun j => by simp) ?_
        rw [hnt]
        refine prefix_to hm noFacts_ok groupPrims_ok hM ?_ pre 100000 _ st0 first
        exact CodeTo.of_run (run_ok hm noFacts_ok groupPrims_ok 100000) hrun (Nat.le_of_ble_eq_true h2) ⟨.inr rfl, _, hres, rfl⟩
      refine (CallTo.calls ⟨rfl, rfl, rfl⟩ hcall).mono fun e w' ⟨v, u, ρ', ⟨_, hv⟩, he, hu, hbl⟩ => ?_
      subst hv
      obtain ⟨rfl, _⟩ := hu
      exact ⟨he, hbl⟩
    · cases h2
  · cases h2

noncomputable def prims : Prims := fun f => bif Nat.beq f 77 then some trueA else none

theorem prims_ok {σ : Syms} {N0 : Nat} {w0 : World} : ∀ f p, prims f = some p → PrimOk Try.prog σ N0 w0 f p := by
  intro f p h
  unfold prims at h
  cases hq : Nat.beq f 77 with
  | false => rw [hq] at h; cases h
  | true =>
    rw [hq, cond_true] at h
    have := Nat.eq_of_beq_eq_true hq
    subst this
    cases h
    exact trueA_ok begun_calls

theorem run_true : isTrue (run Try.prog prims noFacts (drawRun Try.prog) 100000 (.call 16 [.sym 0]) st0) = true := by decide +kernel

theorem walk (a0 : Int) (w0 : (Lit.int .i64 a0).wf = true) (w : World) : Calls Try.prog 16 #[.int .i64 a0] w fun e w' => e = .returned (.bool true) ∧ Below w.heap.size w w' :=
  calls_runP (σ := fun _ => (.i64, a0)) (args := [.sym 0]) (us := #[.int .i64 a0]) w prims_ok noFacts_ok (by kernel_rfl) ⟨_, _, rfl, rfl, rfl⟩ run_true

set_option maxRecDepth 100000 in
theorem lifted (os : Os) (started : os.Started) (H : Type) (enc : TypeId × Value → H) :
    ReturnsInHanded {} Try.checked os 16 .any (Rows.graftNoneSpec.pre6 enc Try.prog Try.f16 Rows.graftNoneRow.domain false) (Rows.graftNoneSpec.post enc Try.prog Try.f16 false true false false) := by
  refine returnsInHanded_of_change (C := Try.checked) own started (by kernel_rfl) Try.func16
    (ChangeSpec.witness6 (enc := enc) (C := Try.checked) false ⟨#[], #[.int .i64 0], []⟩ 8 (by kernel_rfl) (by kernel_rfl) (by kernel_rfl) (by kernel_rfl)) ?_
  intro W base args ds gs before hval0 hW hcnd _
  have hval : ∀ (j : Nat) t v, Try.f16.params[j]? = some t → args[j]? = some v → Value.okWide Try.prog W .any base t v := hval0
  have hW' := hW
  obtain ⟨p, q, hA0, hV, rfl, hfz, hnd⟩ := hW
  have hA : DataW.TrodAll enc Try.prog W 0 (fun _ => true) true Try.f16.params.toList args.toList ds p := hA0
  rw [Try.params16] at hA hval
  obtain ⟨v0, vs0, d0, ds0, p0, q0, hargs, rfl, rfl, h0, r0⟩ := trodAll_cons hA
  obtain ⟨rfl, rfl, rfl⟩ := trodAll_nil r0
  obtain rfl : args = #[v0] := by cases args; simp_all
  obtain ⟨rfl, rfl⟩ := trodVars_none hV
  obtain ⟨a0, rfl, rfl, rfl, w0⟩ := open_int Try.underlying3 (hval 0 3 v0 rfl rfl) h0
  clear hA0 hval0
  refine (walk a0 w0 W).mono fun e W' ⟨he, bel⟩ => ?_
  subst he
  exact ⟨_, rfl, _, _, _, [], _, [], hW', trodAll_mk1 (shut_bool Try.underlying4 _), (trodAll_cons_mk (shut_int Try.underlying3 w0) trodAll_mk0), rfl, bel.frame _, fun h => by cases h⟩

theorem over : Rows.graftNoneRow.holds Try.pinned (OpenSpec.ofChange Rows.graftNoneSpec) :=
  OpenClaim.holds_of_wide 16 Try.f16 rfl rfl rfl rfl rfl rfl rfl ⟨rfl, rfl, rfl, rfl, rfl⟩ rfl rfl rfl rfl rfl (by kernel_rfl) Try.func16 (by kernel_rfl)
    (of_decide_eq_true (by kernel_rfl)) (by unfold Func.isWrapper; first | (rw [if_pos (by decide +kernel)]; kernel_rfl) | (rw [if_neg (by decide +kernel)]; exact ⟨rfl, rfl⟩))
    (fun os started H enc _ => lifted os started H enc)

theorem proved : Rows.GraftNoneSaid :=
  over
#print axioms proved
end Go.Proofs.Ytibengibhihgpaa.graftNone
