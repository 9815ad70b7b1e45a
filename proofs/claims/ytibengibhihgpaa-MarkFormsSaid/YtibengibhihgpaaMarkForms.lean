/-
  Which marks are given: the law MarkForms returns true of all numbers.
-/
import Derived.Test.YtibengibhihgpaaMarkRuns0
import Derived.Test.YtibengibhihgpaaMarkRuns1
import Derived.Test.YtibengibhihgpaaMarkRuns2
import Derived.Test.YtibengibhihgpaaRows
import Derived.WalkKit
import Derived.ProofKit
import Derived.OpenShut
import Derived.ShutString
namespace Go.Proofs.Ytibengibhihgpaa.markForms
open Go.ChangeShapes Go.WideShapes Go.ChangeAt Go.RowKit
set_option linter.unusedVariables false

theorem own : ownKnob Try.prog.godebug = none := by kernel_rfl

open Go.Am

theorem all (s d : Nat) (hs : s < 6) (hd : d < 20) : goes s d = true := by
  have : s = 0 ∨ s = 1 ∨ s = 2 ∨ s = 3 ∨ s = 4 ∨ s = 5 := by omega
  rcases this with rfl | rfl | rfl | rfl | rfl | rfl
  · exact upTo_ok all0 hd
  · exact upTo_ok all1 hd
  · exact upTo_ok all2 hd
  · exact upTo_ok all3 hd
  · exact upTo_ok all4 hd
  · exact upTo_ok all5 hd

theorem wf_u8 {a : Int} (h : (Lit.int .u8 a).wf = true) : 0 ≤ a := by
  simp only [Lit.wf, Bool.and_eq_true, decide_eq_true_eq] at h
  have hm : IntKind.u8.min = 0 := by decide
  rw [hm] at h
  exact h.1

theorem known_ok {a0 a1 s d : Int} (hs : a0.tmod 6 = s) (hd : a1.tmod 20 = d) : FactsOk Try.prog (fun i => match i with | 0 => (.u8, a0) | 1 => (.u8, a1) | _ => (.i64, 0)) (known s d) := by
  intro op vs v hv ρ e w hrel
  unfold known at hv
  split at hv
  · rename_i t x y yt
    cases hv
    have hop : (Op.binOp .rem t x y yt).operands.toList.map e = [e x, e y] := by simp [Op.operands]
    rw [hop] at hrel
    have hus := two_args hrel
    simp only [List.cons.injEq, and_true] at hus
    refine ⟨.int .u8 s, fun o ho => ?_, rfl, rfl⟩
    have h6 := rem_run (P := Try.prog) (k := .u8) (a := a0) (d := 6) (by decide) t w x y
    unfold execOp
    rw [ho]
    simp only []
    rw [hus.1, hus.2, Sem.run_bind, h6, hs]
    rfl
  · rename_i t x y yt
    cases hv
    have hop : (Op.binOp .rem t x y yt).operands.toList.map e = [e x, e y] := by simp [Op.operands]
    rw [hop] at hrel
    have hus := two_args hrel
    simp only [List.cons.injEq, and_true] at hus
    refine ⟨.int .u8 d, fun o ho => ?_, rfl, rfl⟩
    have h6 := rem_run (P := Try.prog) (k := .u8) (a := a1) (d := 20) (by decide) t w x y
    unfold execOp
    rw [ho]
    simp only []
    rw [hus.1, hus.2, Sem.run_bind, h6, hd]
    rfl
  · cases hv

theorem walk (a0 a1 : Int) (w0 : (Lit.int .u8 a0).wf = true) (w1 : (Lit.int .u8 a1).wf = true) (w : World) :
    Calls Try.prog 4 #[.int .u8 a0, .int .u8 a1] w fun e w' => e = .returned (.bool true) ∧ Below w.heap.size w w' := by
  have b0 := wf_u8 w0
  have b1 := wf_u8 w1
  obtain ⟨s, hs⟩ : ∃ s : Nat, a0 % 6 = s := ⟨(a0 % 6).toNat, by omega⟩
  obtain ⟨d, hd⟩ : ∃ d : Nat, a1 % 20 = d := ⟨(a1 % 20).toNat, by omega⟩
  have e0 : a0.tmod 6 = (s : Int) := by rw [Int.tmod_eq_emod_of_nonneg b0]; exact hs
  have e1 : a1.tmod 20 = (d : Int) := by rw [Int.tmod_eq_emod_of_nonneg b1]; exact hd
  exact calls_runP (args := [.sym 0, .sym 1]) (us := #[.int .u8 a0, .int .u8 a1]) w (exploring_ok ofPrims_ok (by kernel_rfl)) (known_ok e0 e1) (by kernel_rfl) ⟨_, _, rfl, rfl, _, _, rfl, rfl, rfl⟩ (all s d (by omega) (by omega))

set_option maxRecDepth 100000 in
theorem lifted (os : Os) (started : os.Started) (H : Type) (enc : TypeId × Value → H) :
    ReturnsInHanded {} Try.checked os 4 .any (Rows.markFormsSpec.pre6 enc Try.prog Try.f4 Rows.markFormsRow.domain false) (Rows.markFormsSpec.post enc Try.prog Try.f4 false true false false) := by
  refine returnsInHanded_of_change (C := Try.checked) own started (by kernel_rfl) Try.func4
    (ChangeSpec.witness6 (enc := enc) (C := Try.checked) false ⟨#[], #[.int .u8 0, .int .u8 0], []⟩ 8 (by kernel_rfl) (by kernel_rfl) (by kernel_rfl) (by kernel_rfl)) ?_
  intro W base args ds gs before hval0 hW hcnd _
  have hval : ∀ (j : Nat) t v, Try.f4.params[j]? = some t → args[j]? = some v → Value.okWide Try.prog W .any base t v := hval0
  have hW' := hW
  obtain ⟨p, q, hA0, hV, rfl, hfz, hnd⟩ := hW
  have hA : DataW.TrodAll enc Try.prog W 0 (fun _ => true) true Try.f4.params.toList args.toList ds p := hA0
  rw [Try.params4] at hA hval
  obtain ⟨v0, vs0, d0, ds0, p0, q0, hargs, rfl, rfl, h0, r0⟩ := trodAll_cons hA
  obtain ⟨v1, vs1, d1, ds1, p1, q1, rfl, rfl, rfl, h1, r1⟩ := trodAll_cons r0
  obtain ⟨rfl, rfl, rfl⟩ := trodAll_nil r1
  obtain rfl : args = #[v0, v1] := by cases args; simp_all
  obtain ⟨rfl, rfl⟩ := trodVars_none hV
  obtain ⟨a0, rfl, rfl, rfl, w0⟩ := open_int Try.underlying5 (hval 0 5 v0 rfl rfl) h0
  obtain ⟨a1, rfl, rfl, rfl, w1⟩ := open_int Try.underlying5 (hval 1 5 v1 rfl rfl) h1
  clear hA0 hval0
  refine (walk a0 a1 w0 w1 W).mono fun e W' ⟨he, bel⟩ => ?_
  subst he
  exact ⟨_, rfl, _, _, _, [], _, [], hW', trodAll_mk1 (shut_bool Try.underlying4 _), (trodAll_cons_mk (shut_int Try.underlying5 w0) (trodAll_cons_mk (shut_int Try.underlying5 w1) trodAll_mk0)), rfl, bel.frame _, fun h => by cases h⟩

theorem over : Rows.markFormsRow.holds Try.pinned (OpenSpec.ofChange Rows.markFormsSpec) :=
  OpenClaim.holds_of_wide 4 Try.f4 rfl rfl rfl rfl rfl rfl rfl ⟨rfl, rfl, rfl, rfl, rfl⟩ rfl rfl rfl rfl rfl (by kernel_rfl) Try.func4 (by kernel_rfl)
    (of_decide_eq_true (by kernel_rfl)) (by unfold Func.isWrapper; first | (rw [if_pos (by decide +kernel)]; kernel_rfl) | (rw [if_neg (by decide +kernel)]; exact ⟨rfl, rfl⟩))
    (fun os started H enc _ => lifted os started H enc)

theorem proved : Rows.MarkFormsSaid :=
  over
#print axioms proved
end Go.Proofs.Ytibengibhihgpaa.markForms
