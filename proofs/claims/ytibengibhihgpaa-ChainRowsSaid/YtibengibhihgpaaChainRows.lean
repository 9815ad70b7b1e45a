/-
  Of a row of calls the last one is where each leads, and answers go back one by one: the law ChainRows returns true of all numbers.
-/
import Derived.Test.YtibengibhihgpaaExplore
import Derived.Test.YtibengibhihgpaaLinks3
import Derived.Test.YtibengibhihgpaaRows
import Derived.WalkKit
import Derived.ProofKit
import Derived.OpenShut
import Derived.ShutString
namespace Go.Proofs.Ytibengibhihgpaa.chainRows
open Go.ChangeShapes Go.WideShapes Go.ChangeAt Go.RowKit
set_option linter.unusedVariables false

theorem own : ownKnob Try.prog.godebug = none := by kernel_rfl

open Go.Am

noncomputable def linksPrims : Prims := fun f => bif Nat.beq f 33 then some linksA else none

theorem linksPrims_ok {σ : Syms} {N0 : Nat} {w0 : World} : ∀ f p, linksPrims f = some p → PrimOk Try.prog σ N0 w0 f p := by
  intro f p h
  unfold linksPrims at h
  cases hq : Nat.beq f 33 with
  | false => rw [hq] at h; cases h
  | true =>
    rw [hq, cond_true] at h
    have := Nat.eq_of_beq_eq_true hq
    subst this
    cases h
    exact linksA_ok

noncomputable def prims : Prims := exploring linksPrims 100000 4096 [29]

/-- n % 8 = d; who % k = r. -/
def known (d k r : Int) : Facts := fun op vs => match op, vs with
  | .binOp .rem _ _ _ _, [.sym 0, .lit (.int .u8 8)] => some (.lit (.int .u8 d))
  | .convert a b _, [.sym 1] => bif Nat.beq a 5 && Nat.beq b 3 then some (.sym 2) else none
  | .binOp .rem _ _ _ _, [.sym 2, .lit (.int .i64 m)] => bif decide (m = k) then some (.lit (.int .i64 r)) else none
  | _, _ => none

noncomputable def goes (d r : Nat) : Bool := isTrue (run Try.prog prims (known d (d + 2) r) (drawRun Try.prog) 100000 (.call 7 [.sym 0, .sym 1]) st0)

def upTo (g : Nat → Bool) : Nat → Bool
  | 0 => true
  | r + 1 => g r && upTo g r

theorem upTo_ok {g : Nat → Bool} : ∀ {n r : Nat}, upTo g n = true → r < n → g r = true
  | 0, r, _, h => absurd h (Nat.not_lt_zero r)
  | n + 1, r, hu, h => by
    simp only [upTo, Bool.and_eq_true] at hu
    by_cases hr : r = n
    · subst hr; exact hu.1
    · exact upTo_ok hu.2 (by omega)

theorem all0 : (upTo (goes 0) 2 && (upTo (goes 1) 3 && (upTo (goes 2) 4 && upTo (goes 3) 5))) = true := by decide +kernel
theorem all1 : (upTo (goes 4) 6 && upTo (goes 5) 7) = true := by decide +kernel
theorem all2 : upTo (goes 6) 8 = true := by decide +kernel
theorem all3 : upTo (goes 7) 9 = true := by decide +kernel

theorem all (d r : Nat) (hd : d < 8) (hr : r < d + 2) : goes d r = true := by
  have h0 := all0
  have h1 := all1
  simp only [Bool.and_eq_true] at h0 h1
  obtain ⟨a0, a1, a2, a3⟩ := h0
  obtain ⟨a4, a5⟩ := h1
  have : d = 0 ∨ d = 1 ∨ d = 2 ∨ d = 3 ∨ d = 4 ∨ d = 5 ∨ d = 6 ∨ d = 7 := by omega
  rcases this with rfl | rfl | rfl | rfl | rfl | rfl | rfl | rfl
  · exact upTo_ok a0 hr
  · exact upTo_ok a1 hr
  · exact upTo_ok a2 hr
  · exact upTo_ok a3 hr
  · exact upTo_ok a4 hr
  · exact upTo_ok a5 hr
  · exact upTo_ok all2 hr
  · exact upTo_ok all3 hr

theorem wf_u8 {a : Int} (h : (Lit.int .u8 a).wf = true) : 0 ≤ a ∧ a < 256 := by
  simp only [Lit.wf, Bool.and_eq_true, decide_eq_true_eq] at h
  have hm : IntKind.u8.min = 0 := by decide
  have hM : IntKind.u8.max = 255 := by decide
  rw [hm, hM] at h
  omega

theorem known_ok {a0 a1 d k r : Int} (hd : a0.tmod 8 = d) (hk : k ≠ 0) (hr : a1.tmod k = r) (h1 : 0 ≤ a1 ∧ a1 < 256) : FactsOk Try.prog (fun i => match i with | 0 => (.u8, a0) | 1 => (.u8, a1) | 2 => (.i64, a1) | _ => (.i64, 0)) (known d k r) := by
  intro op vs v hv ρ e w hrel
  unfold known at hv
  split at hv
  · rename_i t x y yt
    cases hv
    have hop : (Op.binOp .rem t x y yt).operands.toList.map e = [e x, e y] := by simp [Op.operands]
    rw [hop] at hrel
    have hus := two_args hrel
    simp only [List.cons.injEq, and_true] at hus
    refine ⟨.int .u8 d, fun o ho => ?_, rfl, rfl⟩
    have h6 := rem_run (P := Try.prog) (k := .u8) (a := a0) (d := 8) (by decide) t w x y
    unfold execOp
    rw [ho]
    simp only []
    rw [hus.1, hus.2, Sem.run_bind, h6, hd]
    rfl
  · rename_i a b x
    cases hq : (Nat.beq a 5 && Nat.beq b 3) with
    | false => rw [hq] at hv; cases hv
    | true =>
      rw [hq, cond_true] at hv
      cases hv
      simp only [Bool.and_eq_true] at hq
      have ha := Nat.eq_of_beq_eq_true hq.1
      have hb := Nat.eq_of_beq_eq_true hq.2
      subst ha
      subst hb
      have hop : (Op.convert 5 3 x).operands.toList.map e = [e x] := by simp [Op.operands]
      rw [hop] at hrel
      obtain ⟨u1, r1, e1, hu1, e2⟩ := hrel
      simp only [List.cons.injEq] at e1
      have hx : e x = .int .u8 a1 := e1.1.trans hu1
      refine ⟨.int .i64 a1, fun o ho => ?_, rfl⟩
      unfold execOp
      rw [ho]
      show Sem.run Try.prog (do pure (Next.value (← convert 5 3 (e x)))) w = _
      have hk3 : Try.prog.intKind 3 = .i64 := by kernel_rfl
      have hc := run_convert_int (P := Try.prog) (w := w) 5 3 .u8 a1 (by rw [Try.underlying5]; rfl) (by rw [hk3]; exact Try.underlying3)
      rw [hk3] at hc
      have hwrap : IntKind.i64.wrap a1 = a1 := by simp [IntKind.wrap, IntKind.bits, IntKind.signed]; omega
      rw [hwrap] at hc
      rw [hx, Sem.run_bind, hc]
      rfl
  · rename_i t x y yt m
    cases hq : decide (m = k) with
    | false => rw [hq] at hv; cases hv
    | true =>
      rw [hq, cond_true] at hv
      cases hv
      have hmk := of_decide_eq_true hq
      subst hmk
      have hop : (Op.binOp .rem t x y yt).operands.toList.map e = [e x, e y] := by simp [Op.operands]
      rw [hop] at hrel
      have hus := two_args hrel
      simp only [List.cons.injEq, and_true] at hus
      refine ⟨.int .i64 r, fun o ho => ?_, rfl, rfl⟩
      have h6 := rem_run (P := Try.prog) (k := .i64) (a := a1) (d := m) hk t w x y
      unfold execOp
      rw [ho]
      simp only []
      rw [hus.1, hus.2, Sem.run_bind, h6, hr]
      rfl
  · cases hv

theorem walk (a0 a1 : Int) (w0 : (Lit.int .u8 a0).wf = true) (w1 : (Lit.int .u8 a1).wf = true) (w : World) :
    Calls Try.prog 7 #[.int .u8 a0, .int .u8 a1] w fun e w' => e = .returned (.bool true) ∧ Below w.heap.size w w' := by
  have b0 := wf_u8 w0
  have b1 := wf_u8 w1
  obtain ⟨d, hd⟩ : ∃ d : Nat, a0 % 8 = d := ⟨(a0 % 8).toNat, by omega⟩
  have hd8 : d < 8 := by omega
  obtain ⟨r, hr⟩ : ∃ r : Nat, a1 % ((d : Int) + 2) = r := by
    have := Int.emod_nonneg a1 (show ((d : Int) + 2) ≠ 0 by omega)
    exact ⟨(a1 % ((d : Int) + 2)).toNat, by omega⟩
  have hrd : r < d + 2 := by
    have := Int.emod_lt_of_pos a1 (show 0 < ((d : Int) + 2) by omega)
    omega
  have e0 : a0.tmod 8 = (d : Int) := by rw [Int.tmod_eq_emod_of_nonneg b0.1]; exact hd
  have e1 : a1.tmod ((d : Int) + 2) = (r : Int) := by rw [Int.tmod_eq_emod_of_nonneg b1.1]; exact hr
  exact calls_runP (args := [.sym 0, .sym 1]) (us := #[.int .u8 a0, .int .u8 a1]) w (exploring_ok linksPrims_ok (by kernel_rfl)) (known_ok e0 (by omega) e1 b1) (by kernel_rfl) ⟨_, _, rfl, rfl, _, _, rfl, rfl, rfl⟩ (all d r hd8 hrd)

set_option maxRecDepth 100000 in
theorem lifted (os : Os) (started : os.Started) (H : Type) (enc : TypeId × Value → H) :
    ReturnsInHanded {} Try.checked os 7 .any (Rows.chainRowsSpec.pre6 enc Try.prog Try.f7 Rows.chainRowsRow.domain false) (Rows.chainRowsSpec.post enc Try.prog Try.f7 false true false false) := by
  refine returnsInHanded_of_change (C := Try.checked) own started (by kernel_rfl) Try.func7
    (ChangeSpec.witness6 (enc := enc) (C := Try.checked) false ⟨#[], #[.int .u8 0, .int .u8 0], []⟩ 8 (by kernel_rfl) (by kernel_rfl) (by kernel_rfl) (by kernel_rfl)) ?_
  intro W base args ds gs before hval0 hW hcnd _
  have hval : ∀ (j : Nat) t v, Try.f7.params[j]? = some t → args[j]? = some v → Value.okWide Try.prog W .any base t v := hval0
  have hW' := hW
  obtain ⟨p, q, hA0, hV, rfl, hfz, hnd⟩ := hW
  have hA : DataW.TrodAll enc Try.prog W 0 (fun _ => true) true Try.f7.params.toList args.toList ds p := hA0
  rw [Try.params7] at hA hval
  obtain ⟨v0, vs0, d0, ds0, p0, q0, hargs, rfl, rfl, h0, r0⟩ := trodAll_cons hA
  obtain ⟨v1, vs1, d1, ds1, p1, q1, rfl, rfl, rfl, h1, r1⟩ := trodAll_cons r0
  obtain ⟨rfl, rfl, rfl⟩ := trodAll_nil r1
  obtain rfl : args = #[v0, v1] := by cases args; simp_all
  obtain ⟨rfl, rfl⟩ := trodVars_none hV
  obtain ⟨a0, rfl, rfl, rfl, w0⟩ := open_int Try.underlying5 (hval 0 5 v0 rfl rfl) h0
  obtain ⟨a1, rfl, rfl, rfl, w1⟩ := open_int Try.underlying5 (hval 1 5 v1 rfl rfl) h1
  clear hA0 hval0
  refine (walk a0 a1 w0 w1 W).mono fun e W' ⟨he, bel⟩ => ?_
  subst he
  exact ⟨_, rfl, _, _, _, [], _, [], hW', trodAll_mk1 (shut_bool Try.underlying4 _), (trodAll_cons_mk (shut_int Try.underlying5 w0) (trodAll_cons_mk (shut_int Try.underlying5 w1) trodAll_mk0)), rfl, bel.frame _, fun h => by cases h⟩

theorem over : Rows.chainRowsRow.holds Try.pinned (OpenSpec.ofChange Rows.chainRowsSpec) :=
  OpenClaim.holds_of_wide 7 Try.f7 rfl rfl rfl rfl rfl rfl rfl ⟨rfl, rfl, rfl, rfl, rfl⟩ rfl rfl rfl rfl rfl (by kernel_rfl) Try.func7 (by kernel_rfl)
    (of_decide_eq_true (by kernel_rfl)) (by unfold Func.isWrapper; first | (rw [if_pos (by decide +kernel)]; kernel_rfl) | (rw [if_neg (by decide +kernel)]; exact ⟨rfl, rfl⟩))
    (fun os started H enc _ => lifted os started H enc)

theorem proved : Rows.ChainRowsSaid :=
  over
#print axioms proved
end Go.Proofs.Ytibengibhihgpaa.chainRows
