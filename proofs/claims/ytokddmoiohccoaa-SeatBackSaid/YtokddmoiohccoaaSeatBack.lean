/-
  Who is preempted, or yields, comes back with its registers as they were laid by: the law SeatBack returns true of all arguments.
-/
import Derived.Test.YtokddmoiohccoaaPhase
import Derived.Test.YtokddmoiohccoaaRows
import Derived.WalkKit
import Derived.ProofKit
import Derived.OpenShut
import Derived.ShutString
import Derived.WideKeyArr2
namespace Go.Proofs.Ytokddmoiohccoaa.seatBack
open Go.ChangeShapes Go.WideShapes Go.ChangeAt Go.RowKit
set_option linter.unusedVariables false

theorem own : ownKnob Try.prog.godebug = none := by kernel_rfl
theorem laidOut : laidOutB Try.prog = true := by kernel_rfl

/-! ### Arrays of numbers that come in -/
theorem mapM_all {α β : Type} {f : α → Option β} : ∀ {L : List α} {ys : List β}, L.mapM f = some ys → ∀ i ∈ L, ∃ y, f i = some y
  | [], _, _, i, hi => by simp at hi
  | x :: L, ys, h, i, hi => by
    rw [List.mapM_cons] at h
    simp only [bind, Option.bind_eq_some_iff, pure, Option.some.injEq] at h
    obtain ⟨y, hy, zs, hz, _⟩ := h
    rcases List.mem_cons.1 hi with rfl | hi
    · exact ⟨y, hy⟩
    · exact mapM_all hz i hi

theorem all_ints {q : IntKind} : ∀ (l : List Value), (∀ x ∈ l, ∃ a, x = .int q a) → ∃ zs : List Int, l = zs.map (Value.int q ·)
  | [], _ => ⟨[], rfl⟩
  | x :: l, h => by
    obtain ⟨a, rfl⟩ := h x (by simp)
    obtain ⟨zs, rfl⟩ := all_ints l fun y hy => h y (by simp [hy])
    exact ⟨a :: zs, rfl⟩

theorem arr_ints {H : Type} {enc : TypeId × Value → H} {P : Program} {k e : TypeId} {n : Nat} {q : IntKind} {W : World} {base : Nat} {sp : Nat → Bool} {held : Bool} (hu : P.underlying k = some (.array n e)) (he : P.underlying e = some (.int q)) (h1 : P.cellsOf e = 1) (hk : P.cellsOf k = n)
    {xs : Array Value} (hn : xs.size = n) {d : DataW H} {ps : List MemPlace} (hd : DataW.Trod enc P W base sp held k (.agg xs) d ps) : ps = [] ∧ ∃ zs : List Int, xs.toList = zs.map (Value.int q ·) ∧ zs.length = n := by
  obtain ⟨fuel, hf⟩ := hd
  cases fuel with
  | zero => simp [DataW.trod] at hf
  | succ m =>
    rw [DataW.trod_step] at hf
    unfold DataW.trodStep at hf
    simp only [hu, Value.cells] at hf
    rw [if_pos (by rw [hk]; simpa using hn)] at hf
    simp only [Option.map_eq_some_iff] at hf
    obtain ⟨ys, hy, e1⟩ := hf
    obtain ⟨ls, hls, _⟩ := Go.WideMaps.mapM_both (D := 0) he _ ys hy
    simp only [Prod.mk.injEq] at e1
    refine ⟨by rw [← e1.2, hls]; simp [List.flatMap_eq_nil_iff], ?_⟩
    have hall : ∀ x ∈ xs.toList, ∃ a, x = Value.int q a := fun x hx => by
      obtain ⟨i, hi, hxi⟩ := List.getElem_of_mem hx
      have hin : i < n := by rw [← hn]; simpa using hi
      obtain ⟨y, hy'⟩ := mapM_all hy i (by simp [hin])
      obtain ⟨a, ha, _⟩ := DataW.trod_int he hy'
      refine ⟨a, ?_⟩
      rw [h1, Nat.mul_one] at ha
      have : ((xs.toList.drop i).take 1)[0]? = some (Value.int q a) := by rw [ha]; rfl
      rw [List.getElem?_take, if_pos (by omega), List.getElem?_drop, Nat.add_zero, List.getElem?_eq_getElem hi, hxi] at this
      exact Option.some.inj this
    obtain ⟨zs, hz⟩ := all_ints _ hall
    refine ⟨zs, hz, ?_⟩
    have := congrArg List.length hz
    simp at this
    omega

theorem list8 : ∀ {l : List Int}, l.length = 8 → ∃ a b c d e f g h, l = [a, b, c, d, e, f, g, h]
  | [a, b, c, d, e, f, g, h], _ => ⟨a, b, c, d, e, f, g, h, rfl⟩
  | [], hl => by simp at hl
  | [_], hl => by simp at hl
  | [_, _], hl => by simp at hl
  | [_, _, _], hl => by simp at hl
  | [_, _, _, _], hl => by simp at hl
  | [_, _, _, _, _], hl => by simp at hl
  | [_, _, _, _, _, _], hl => by simp at hl
  | [_, _, _, _, _, _, _], hl => by simp at hl
  | _ :: _ :: _ :: _ :: _ :: _ :: _ :: _ :: _ :: _, hl => by simp at hl

/-! ### The runs -/
open Go.Am

/-- The two numbers modulo 3 are known. -/
def known (x y : Int) : BinOp → Nat → IntKind → Int → Option Value := fun op i k d => match op, k with
  | .rem, .u8 => bif decide (d = 3) then (bif Nat.beq i 16 then some (.int .u8 x) else bif Nat.beq i 17 then some (.int .u8 y) else none) else none
  | _, _ => none

def regs (n : Nat) : AVal := .agg [.sym n, .sym (n + 1), .sym (n + 2), .sym (n + 3), .sym (n + 4), .sym (n + 5), .sym (n + 6), .sym (n + 7)]

noncomputable def goes (x y : Int) (c d : Bool) : Bool := isTrue (run Try.prog prims1 (binFacts (known x y)) (drawRun Try.prog) 100000 (.call 4 [regs 0, regs 8, .sym 16, .sym 17, .lit (.bool c), .lit (.bool d)]) st0)

noncomputable def four (x y : Int) : Bool := goes x y false false && goes x y false true && goes x y true false && goes x y true true

theorem all36 : (four 0 0 && four 0 1 && four 0 2 && four 1 0 && four 1 1 && four 1 2 && four 2 0 && four 2 1 && four 2 2) = true := by decide +kernel

theorem runs {x y : Int} (hx : x = 0 ∨ x = 1 ∨ x = 2) (hy : y = 0 ∨ y = 1 ∨ y = 2) (c d : Bool) : goes x y c d = true := by
  have h := all36
  simp only [Bool.and_eq_true] at h
  have h4 : four x y = true := by
    rcases hx with rfl | rfl | rfl <;> rcases hy with rfl | rfl | rfl <;> simp only [h]
  simp only [four, Bool.and_eq_true] at h4
  cases c <;> cases d <;> simp only [h4]

theorem mod3 {a : Int} (h : (Lit.int .u8 a).wf = true) : a.tmod 3 = 0 ∨ a.tmod 3 = 1 ∨ a.tmod 3 = 2 := by
  have h0 : 0 ≤ a := by
    simp only [Lit.wf, Bool.and_eq_true, decide_eq_true_eq] at h
    have hm : IntKind.u8.min = 0 := by decide
    have h1 := h.1
    rw [hm] at h1
    exact h1
  have : a.tmod 3 = a % 3 := Int.tmod_eq_emod_of_nonneg h0
  omega

theorem walk (xs ys : Array Value) (a b : Int) (c d : Bool) (w : World) (hxs : ∃ zs : List Int, xs.toList = zs.map (Value.int .u64 ·) ∧ zs.length = 8) (hys : ∃ zs : List Int, ys.toList = zs.map (Value.int .u64 ·) ∧ zs.length = 8)
    (ha : (Lit.int .u8 a).wf = true) (hb : (Lit.int .u8 b).wf = true) :
    Calls Try.prog 4 #[.agg xs, .agg ys, .int .u8 a, .int .u8 b, .bool c, .bool d] w fun e w' => e = .returned (.bool true) ∧ Below w.heap.size w w' := by
  obtain ⟨zs, hz, hzl⟩ := hxs
  obtain ⟨us, hu, hul⟩ := hys
  obtain ⟨z0, z1, z2, z3, z4, z5, z6, z7, rfl⟩ := list8 hzl
  obtain ⟨u0, u1, u2, u3, u4, u5, u6, u7, rfl⟩ := list8 hul
  let l : List (IntKind × Int) := [(.u64, z0), (.u64, z1), (.u64, z2), (.u64, z3), (.u64, z4), (.u64, z5), (.u64, z6), (.u64, z7), (.u64, u0), (.u64, u1), (.u64, u2), (.u64, u3), (.u64, u4), (.u64, u5), (.u64, u6), (.u64, u7), (.u8, a), (.u8, b)]
  let σ : Syms := fun i => l.getD i (.i64, 0)
  have hfa : FactsOk Try.prog σ (binFacts (known (a.tmod 3) (b.tmod 3))) := binFacts_ok fun op i k n v h => by
    unfold known at h
    split at h
    · cases hn : decide (n = 3) with
      | false => rw [hn] at h; cases h
      | true =>
        rw [hn, cond_true] at h
        have hn := of_decide_eq_true hn
        subst hn
        cases h1 : Nat.beq i 16 with
        | true =>
          rw [h1, cond_true] at h
          cases h
          have := Nat.eq_of_beq_eq_true h1
          subst this
          exact ⟨rfl, fun t w ox oy => rem_run (by decide) t w ox oy⟩
        | false =>
          rw [h1, cond_false] at h
          cases h2 : Nat.beq i 17 with
          | true =>
            rw [h2, cond_true] at h
            cases h
            have := Nat.eq_of_beq_eq_true h2
            subst this
            exact ⟨rfl, fun t w ox oy => rem_run (by decide) t w ox oy⟩
          | false => rw [h2] at h; cases h
    · cases h
  refine calls_runF hfa (args := [regs 0, regs 8, .sym 16, .sym 17, .lit (.bool c), .lit (.bool d)]) (us := #[.agg xs, .agg ys, .int .u8 a, .int .u8 b, .bool c, .bool d]) w (by kernel_rfl) ?_ (runs (mod3 ha) (mod3 hb) c d)
  have hx : VRel σ (fun _ => none) (regs 0) (.agg xs) := ⟨xs, rfl, by rw [hz]; exact ⟨_, _, rfl, rfl, _, _, rfl, rfl, _, _, rfl, rfl, _, _, rfl, rfl, _, _, rfl, rfl, _, _, rfl, rfl, _, _, rfl, rfl, _, _, rfl, rfl, rfl⟩⟩
  have hy : VRel σ (fun _ => none) (regs 8) (.agg ys) := ⟨ys, rfl, by rw [hu]; exact ⟨_, _, rfl, rfl, _, _, rfl, rfl, _, _, rfl, rfl, _, _, rfl, rfl, _, _, rfl, rfl, _, _, rfl, rfl, _, _, rfl, rfl, _, _, rfl, rfl, rfl⟩⟩
  exact ⟨_, _, rfl, hx, _, _, rfl, hy, _, _, rfl, rfl, _, _, rfl, rfl, _, _, rfl, ⟨rfl, rfl⟩, _, _, rfl, ⟨rfl, rfl⟩, rfl⟩

/-! ### The row -/
set_option maxRecDepth 100000 in
theorem lifted (os : Os) (started : os.Started) (H : Type) (enc : TypeId × Value → H) :
    ReturnsInHanded {} Try.checked os 4 .any (Rows.seatBackSpec.pre6 enc Try.prog Try.f4 Rows.seatBackRow.domain false) (Rows.seatBackSpec.post enc Try.prog Try.f4 false true false false) := by
  refine returnsInHanded_of_change (C := Try.checked) own started (by kernel_rfl) Try.func4
    (ChangeSpec.witness6 (enc := enc) (C := Try.checked) false ⟨#[], #[.agg #[.int .u64 0, .int .u64 0, .int .u64 0, .int .u64 0, .int .u64 0, .int .u64 0, .int .u64 0, .int .u64 0], .agg #[.int .u64 0, .int .u64 0, .int .u64 0, .int .u64 0, .int .u64 0, .int .u64 0, .int .u64 0, .int .u64 0], .int .u8 0, .int .u8 0, .bool false, .bool false], []⟩ 8 (by kernel_rfl) (by kernel_rfl) (by kernel_rfl) (by kernel_rfl)) ?_
  intro W base args ds gs before hval0 hW hcnd _
  have hval : ∀ (j : Nat) t v, Try.f4.params[j]? = some t → args[j]? = some v → Value.okWide Try.prog W .any base t v := hval0
  have hW' := hW
  obtain ⟨p, q, hA0, hV, rfl, hfz, hnd⟩ := hW
  have hA : DataW.TrodAll enc Try.prog W 0 (fun _ => true) true Try.f4.params.toList args.toList ds p := hA0
  rw [Try.params4] at hA hval
  obtain ⟨v0, vs0, d0, ds0, p0, q0, hargs, rfl, rfl, h0, r0⟩ := trodAll_cons hA
  obtain ⟨v1, vs1, d1, ds1, p1, q1, rfl, rfl, rfl, h1, r1⟩ := trodAll_cons r0
  obtain ⟨v2, vs2, d2, ds2, p2, q2, rfl, rfl, rfl, h2, r2⟩ := trodAll_cons r1
  obtain ⟨v3, vs3, d3, ds3, p3, q3, rfl, rfl, rfl, h3, r3⟩ := trodAll_cons r2
  obtain ⟨v4, vs4, d4, ds4, p4, q4, rfl, rfl, rfl, h4, r4⟩ := trodAll_cons r3
  obtain ⟨v5, vs5, d5, ds5, p5, q5, rfl, rfl, rfl, h5, r5⟩ := trodAll_cons r4
  obtain ⟨rfl, rfl, rfl⟩ := trodAll_nil r5
  obtain rfl : args = #[v0, v1, v2, v3, v4, v5] := by cases args; simp_all
  obtain ⟨rfl, rfl⟩ := trodVars_none hV
  have hsize : Try.prog.cellsOf 30 = 8 := by kernel_rfl
  have hone : Try.prog.cellsOf 28 = 1 := by kernel_rfl
  have arr : ∀ v, Value.okWide Try.prog W .any base 30 v → ∃ xs : Array Value, v = .agg xs ∧ xs.size = 8 := fun v h => by
    simp only [Value.okWide, Try.underlying30] at h
    obtain ⟨cs, g1, g2, _⟩ := h
    exact ⟨cs, g1, by rw [g2, hsize]⟩
  obtain ⟨xs, rfl, hx8⟩ := arr v0 (hval 0 30 v0 rfl rfl)
  obtain ⟨ys, rfl, hy8⟩ := arr v1 (hval 1 30 v1 rfl rfl)
  obtain ⟨rfl, hxs⟩ := arr_ints Try.underlying30 Try.underlying28 hone hsize hx8 h0
  obtain ⟨rfl, hys⟩ := arr_ints Try.underlying30 Try.underlying28 hone hsize hy8 h1
  obtain ⟨a2, rfl, rfl, rfl, w2⟩ := open_int Try.underlying5 (hval 2 5 v2 rfl rfl) h2
  obtain ⟨a3, rfl, rfl, rfl, w3⟩ := open_int Try.underlying5 (hval 3 5 v3 rfl rfl) h3
  obtain ⟨a4, rfl, rfl, rfl⟩ := open_bool Try.underlying4 (hval 4 4 v4 rfl rfl) h4
  obtain ⟨a5, rfl, rfl, rfl⟩ := open_bool Try.underlying4 (hval 5 4 v5 rfl rfl) h5
  clear hA0 hval0
  refine (walk xs ys a2 a3 a4 a5 W hxs hys w2 w3).mono fun e W' ⟨he, bel⟩ => ?_
  subst he
  exact ⟨_, rfl, _, _, _, [], _, [], hW', trodAll_mk1 (shut_bool Try.underlying4 _), (trodAll_cons_mk (Below.trod laidOut (by kernel_rfl) (of_decide_eq_true (by kernel_rfl)) h0 bel (fun x hx => by cases hx)) (trodAll_cons_mk (Below.trod laidOut (by kernel_rfl) (of_decide_eq_true (by kernel_rfl)) h1 bel (fun x hx => by cases hx))
    (trodAll_cons_mk (shut_int Try.underlying5 w2) (trodAll_cons_mk (shut_int Try.underlying5 w3) (trodAll_cons_mk (shut_bool Try.underlying4 _) (trodAll_cons_mk (shut_bool Try.underlying4 _) trodAll_mk0)))))), rfl, bel.frame _, fun h => by cases h⟩

theorem over : Rows.seatBackRow.holds Try.pinned (OpenSpec.ofChange Rows.seatBackSpec) :=
  OpenClaim.holds_of_wide 4 Try.f4 rfl rfl rfl rfl rfl rfl rfl ⟨rfl, rfl, rfl, rfl, rfl⟩ rfl rfl rfl rfl rfl (by kernel_rfl) Try.func4 (by kernel_rfl)
    (of_decide_eq_true (by kernel_rfl)) (by unfold Func.isWrapper; first | (rw [if_pos (by decide +kernel)]; kernel_rfl) | (rw [if_neg (by decide +kernel)]; exact ⟨rfl, rfl⟩))
    (fun os started H enc _ => lifted os started H enc)

theorem proved : Rows.SeatBackSaid :=
  over
#print axioms proved
end Go.Proofs.Ytokddmoiohccoaa.seatBack
