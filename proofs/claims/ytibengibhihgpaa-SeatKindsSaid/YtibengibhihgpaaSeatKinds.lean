/-
  How many processors and parts there may be: the law SeatKinds returns true of all numbers.
-/
import Derived.Test.YtibengibhihgpaaExplore
import Derived.Test.YtibengibhihgpaaPhase2
import Derived.Test.YtibengibhihgpaaAm28
import Derived.Test.YtibengibhihgpaaRows
import Derived.WalkKit
import Derived.ProofKit
import Derived.OpenShut
import Derived.ShutString
namespace Go.Proofs.Ytibengibhihgpaa.seatKinds
open Go.ChangeShapes Go.WideShapes Go.ChangeAt Go.RowKit
set_option linter.unusedVariables false

theorem own : ownKnob Try.prog.godebug = none := by kernel_rfl

noncomputable def prims : Go.Am.Prims := exploring (exploring phasePrims 100000 64 [33]) 100000 4096 [64]

open Go.Am

/-- 0 and 2: at most 1; 1: at least 3; 3: at least 6. -/
def bnds : Bnds := fun i => match i with
  | 0 => some (.i64, none, some 1)
  | 1 => some (.i64, some 3, none)
  | 2 => some (.i64, none, some 1)
  | 3 => some (.i64, some 6, none)
  | _ => none

noncomputable def goes (x y : AVal) : Bool := isTrue (run Try.prog prims (intFacts bnds) (drawRun Try.prog) 100000 (.call 15 [x, y]) st0)

noncomputable def six (x : AVal) : Bool := goes x (.sym 2) && (goes x (.lit (.int .i64 2)) && (goes x (.lit (.int .i64 3)) && (goes x (.lit (.int .i64 4)) && (goes x (.lit (.int .i64 5)) && goes x (.sym 3)))))

theorem all : (six (.sym 0) && (six (.lit (.int .i64 2)) && six (.sym 1))) = true := by decide +kernel

theorem walk (a0 a1 : Int) (w0 : (Lit.int .i64 a0).wf = true) (w1 : (Lit.int .i64 a1).wf = true) (w : World) :
    Calls Try.prog 15 #[.int .i64 a0, .int .i64 a1] w fun e w' => e = .returned (.bool true) ∧ Below w.heap.size w w' := by
  let σ : Syms := fun i => match i with
    | 0 => (.i64, min a0 1)
    | 1 => (.i64, max a0 3)
    | 2 => (.i64, min a1 1)
    | 3 => (.i64, max a1 6)
    | _ => (.i64, 0)
  have hB : BndsOk σ bnds := fun i k lo hi h => by
    unfold bnds at h
    split at h
    · cases h; exact ⟨rfl, fun l h => (by cases h), fun l h => by cases h; show min a0 1 ≤ 1; omega⟩
    · cases h; exact ⟨rfl, fun l h => (by cases h; show 3 ≤ max a0 3; omega), fun l h => by cases h⟩
    · cases h; exact ⟨rfl, fun l h => (by cases h), fun l h => by cases h; show min a1 1 ≤ 1; omega⟩
    · cases h; exact ⟨rfl, fun l h => (by cases h; show 6 ≤ max a1 6; omega), fun l h => by cases h⟩
    · cases h
  have go : ∀ x y, goes x y = true → VRel σ (fun _ => none) x (.int .i64 a0) → VRel σ (fun _ => none) y (.int .i64 a1) → Calls Try.prog 15 #[.int .i64 a0, .int .i64 a1] w fun e w' => e = .returned (.bool true) ∧ Below w.heap.size w w' :=
    fun x y h hx hy => calls_runP (σ := σ) (args := [x, y]) (us := #[.int .i64 a0, .int .i64 a1]) w (exploring_ok (exploring_ok phasePrims_ok (by kernel_rfl)) (by kernel_rfl)) (intFacts_ok hB) (by kernel_rfl) ⟨_, _, rfl, hx, _, _, rfl, hy, rfl⟩ h
  have hall := all
  simp only [six, Bool.and_eq_true] at hall
  obtain ⟨⟨h1, h2, h3, h4, h5, h6⟩, ⟨i1, i2, i3, i4, i5, i6⟩, j1, j2, j3, j4, j5, j6⟩ := hall
  have lit : ∀ (n : Int) (a : Int), a = n → VRel σ (fun _ => none) (.lit (.int .i64 n)) (.int .i64 a) := fun n a h => by subst h; exact ⟨rfl, rfl⟩
  have s0 : a0 ≤ 1 → VRel σ (fun _ => none) (.sym 0) (.int .i64 a0) := fun h => by show _ = Value.int .i64 (min a0 1); rw [show min a0 1 = a0 by omega]
  have s1 : 3 ≤ a0 → VRel σ (fun _ => none) (.sym 1) (.int .i64 a0) := fun h => by show _ = Value.int .i64 (max a0 3); rw [show max a0 3 = a0 by omega]
  have s2 : a1 ≤ 1 → VRel σ (fun _ => none) (.sym 2) (.int .i64 a1) := fun h => by show _ = Value.int .i64 (min a1 1); rw [show min a1 1 = a1 by omega]
  have s3 : 6 ≤ a1 → VRel σ (fun _ => none) (.sym 3) (.int .i64 a1) := fun h => by show _ = Value.int .i64 (max a1 6); rw [show max a1 6 = a1 by omega]
  have hp : a1 ≤ 1 ∨ a1 = 2 ∨ a1 = 3 ∨ a1 = 4 ∨ a1 = 5 ∨ 6 ≤ a1 := by omega
  have hc : a0 ≤ 1 ∨ a0 = 2 ∨ 3 ≤ a0 := by omega
  rcases hc with c | c | c
  · rcases hp with p | p | p | p | p | p
    · exact go _ _ h1 (s0 c) (s2 p)
    · exact go _ _ h2 (s0 c) (lit _ _ p)
    · exact go _ _ h3 (s0 c) (lit _ _ p)
    · exact go _ _ h4 (s0 c) (lit _ _ p)
    · exact go _ _ h5 (s0 c) (lit _ _ p)
    · exact go _ _ h6 (s0 c) (s3 p)
  · rcases hp with p | p | p | p | p | p
    · exact go _ _ i1 (lit _ _ c) (s2 p)
    · exact go _ _ i2 (lit _ _ c) (lit _ _ p)
    · exact go _ _ i3 (lit _ _ c) (lit _ _ p)
    · exact go _ _ i4 (lit _ _ c) (lit _ _ p)
    · exact go _ _ i5 (lit _ _ c) (lit _ _ p)
    · exact go _ _ i6 (lit _ _ c) (s3 p)
  · rcases hp with p | p | p | p | p | p
    · exact go _ _ j1 (s1 c) (s2 p)
    · exact go _ _ j2 (s1 c) (lit _ _ p)
    · exact go _ _ j3 (s1 c) (lit _ _ p)
    · exact go _ _ j4 (s1 c) (lit _ _ p)
    · exact go _ _ j5 (s1 c) (lit _ _ p)
    · exact go _ _ j6 (s1 c) (s3 p)

set_option maxRecDepth 100000 in
theorem lifted (os : Os) (started : os.Started) (H : Type) (enc : TypeId × Value → H) :
    ReturnsInHanded {} Try.checked os 15 .any (Rows.seatKindsSpec.pre6 enc Try.prog Try.f15 Rows.seatKindsRow.domain false) (Rows.seatKindsSpec.post enc Try.prog Try.f15 false true false false) := by
  refine returnsInHanded_of_change (C := Try.checked) own started (by kernel_rfl) Try.func15
    (ChangeSpec.witness6 (enc := enc) (C := Try.checked) false ⟨#[], #[.int .i64 0, .int .i64 0], []⟩ 8 (by kernel_rfl) (by kernel_rfl) (by kernel_rfl) (by kernel_rfl)) ?_
  intro W base args ds gs before hval0 hW hcnd _
  have hval : ∀ (j : Nat) t v, Try.f15.params[j]? = some t → args[j]? = some v → Value.okWide Try.prog W .any base t v := hval0
  have hW' := hW
  obtain ⟨p, q, hA0, hV, rfl, hfz, hnd⟩ := hW
  have hA : DataW.TrodAll enc Try.prog W 0 (fun _ => true) true Try.f15.params.toList args.toList ds p := hA0
  rw [Try.params15] at hA hval
  obtain ⟨v0, vs0, d0, ds0, p0, q0, hargs, rfl, rfl, h0, r0⟩ := trodAll_cons hA
  obtain ⟨v1, vs1, d1, ds1, p1, q1, rfl, rfl, rfl, h1, r1⟩ := trodAll_cons r0
  obtain ⟨rfl, rfl, rfl⟩ := trodAll_nil r1
  obtain rfl : args = #[v0, v1] := by cases args; simp_all
  obtain ⟨rfl, rfl⟩ := trodVars_none hV
  obtain ⟨a0, rfl, rfl, rfl, w0⟩ := open_int Try.underlying3 (hval 0 3 v0 rfl rfl) h0
  obtain ⟨a1, rfl, rfl, rfl, w1⟩ := open_int Try.underlying3 (hval 1 3 v1 rfl rfl) h1
  clear hA0 hval0
  refine (walk a0 a1 w0 w1 W).mono fun e W' ⟨he, bel⟩ => ?_
  subst he
  exact ⟨_, rfl, _, _, _, [], _, [], hW', trodAll_mk1 (shut_bool Try.underlying4 _), (trodAll_cons_mk (shut_int Try.underlying3 w0) (trodAll_cons_mk (shut_int Try.underlying3 w1) trodAll_mk0)), rfl, bel.frame _, fun h => by cases h⟩

theorem over : Rows.seatKindsRow.holds Try.pinned (OpenSpec.ofChange Rows.seatKindsSpec) :=
  OpenClaim.holds_of_wide 15 Try.f15 rfl rfl rfl rfl rfl rfl rfl ⟨rfl, rfl, rfl, rfl, rfl⟩ rfl rfl rfl rfl rfl (by kernel_rfl) Try.func15 (by kernel_rfl)
    (of_decide_eq_true (by kernel_rfl)) (by unfold Func.isWrapper; first | (rw [if_pos (by decide +kernel)]; kernel_rfl) | (rw [if_neg (by decide +kernel)]; exact ⟨rfl, rfl⟩))
    (fun os started H enc _ => lifted os started H enc)

theorem proved : Rows.SeatKindsSaid :=
  over
#print axioms proved
end Go.Proofs.Ytibengibhihgpaa.seatKinds
