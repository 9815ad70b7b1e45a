/-
  PactTakers holds: the row over its walk.
-/
import Derived.Test.YtcoedmiichppdaaJ13

namespace Go.Proofs.Ytcoedmiichppdaa
open Go Go.RowKit
set_option linter.unusedVariables false
set_option linter.unusedSimpArgs false
open Go.ChangeShapes Go.WideShapes Go.ChangeAt

theorem all_intsW {q : IntKind} : ∀ (l : List Value), (∀ x ∈ l, ∃ a, x = .int q a ∧ (Lit.int q a).wf = true) → ∃ zs : List Int, l = zs.map (Value.int q ·) ∧ ∀ z ∈ zs, (Lit.int q z).wf = true
  | [], _ => ⟨[], rfl, fun z hz => by cases hz⟩
  | x :: l, h => by
    obtain ⟨a, rfl, hw⟩ := h x (by simp)
    obtain ⟨zs, rfl, hzw⟩ := all_intsW l fun y hy => h y (by simp [hy])
    refine ⟨a :: zs, rfl, fun z hz => ?_⟩
    rcases List.mem_cons.1 hz with rfl | hz
    · exact hw
    · exact hzw z hz

theorem arr_intsW {H : Type} {enc : TypeId × Value → H} {P : Program} {k e : TypeId} {n : Nat} {q : IntKind} {W : World} {base : Nat} {sp : Nat → Bool} {held : Bool} (hu : P.underlying k = some (.array n e)) (he : P.underlying e = some (.int q)) (h1 : P.cellsOf e = 1) (hk : P.cellsOf k = n)
    {xs : Array Value} (hn : xs.size = n) {d : DataW H} {ps : List MemPlace} (hd : DataW.Trod enc P W base sp held k (.agg xs) d ps) : ps = [] ∧ ∃ zs : List Int, xs.toList = zs.map (Value.int q ·) ∧ zs.length = n ∧ ∀ z ∈ zs, (Lit.int q z).wf = true := by
  obtain ⟨fuel, hf⟩ := hd
  cases fuel with
  | zero => simp [DataW.trod] at hf
  | succ m =>
    rw [DataW.trod_step] at hf
    unfold DataW.trodStep at hf
    simp only [hu, Value.cells] at hf
    rw [if_pos (by rw [hk]; simpa using hn)] at hf
    simp only [Option.map_eq_some_iff] at hf
    obtain ⟨ys, hy, e1⟩ := hf
    obtain ⟨ls, hls, _⟩ := Go.WideMaps.mapM_both (D := 0) he _ ys hy
    simp only [Prod.mk.injEq] at e1
    refine ⟨by rw [← e1.2, hls]; simp [List.flatMap_eq_nil_iff], ?_⟩
    have hall : ∀ x ∈ xs.toList, ∃ a, x = Value.int q a ∧ (Lit.int q a).wf = true := fun x hx => by
      obtain ⟨i, hi, hxi⟩ := List.getElem_of_mem hx
      have hin : i < n := by rw [← hn]; simpa using hi
      obtain ⟨y, hy'⟩ := mapM_all hy i (by simp [hin])
      obtain ⟨a, ha, _, hwf⟩ := DataW.trod_int he hy'
      refine ⟨a, ?_, hwf⟩
      rw [h1, Nat.mul_one] at ha
      have : ((xs.toList.drop i).take 1)[0]? = some (Value.int q a) := by rw [ha]; rfl
      rw [List.getElem?_take, if_pos (by omega), List.getElem?_drop, Nat.add_zero, List.getElem?_eq_getElem hi, hxi] at this
      exact Option.some.inj this
    obtain ⟨zs, hz, hzw⟩ := all_intsW _ hall
    refine ⟨zs, hz, ?_, hzw⟩
    have := congrArg List.length hz
    simp at this
    omega

set_option maxRecDepth 100000 in
theorem arr_u8x4 {H : Type} {enc : TypeId × Value → H} {W : World} {base b0 : Nat} {r : Reach} {v : Value} {d : DataW H} {ps : List MemPlace} (hval : Value.okWide Try.prog W r b0 76 v) (hd : DataW.Trod enc Try.prog W base (fun _ => true) true 76 v d ps) :
    ∃ x0 x1 x2 x3, v = .agg #[.int .u8 x0, .int .u8 x1, .int .u8 x2, .int .u8 x3] ∧ ∀ x ∈ [x0, x1, x2, x3], (Lit.int .u8 x).wf = true := by
  have hsize : Try.prog.cellsOf 76 = 4 := by kernel_rfl
  have hone : Try.prog.cellsOf 5 = 1 := by kernel_rfl
  obtain ⟨xs, rfl, hx4⟩ : ∃ xs : Array Value, v = .agg xs ∧ xs.size = 4 := by
    simp only [Value.okWide, Try.underlying76] at hval
    obtain ⟨cs, g1, g2, _⟩ := hval
    exact ⟨cs, g1, by rw [g2, hsize]⟩
  obtain ⟨rfl, zs, hz, hl, hw⟩ := arr_intsW Try.underlying76 Try.underlying5 hone hsize hx4 hd
  match zs, hl, hw with
  | [x0, x1, x2, x3], _, hw => exact ⟨x0, x1, x2, x3, by rw [show xs = xs.toList.toArray by simp, hz]; rfl, hw⟩

namespace pactTakers
set_option maxRecDepth 100000 in
theorem lifted (os : Os) (started : os.Started) (H : Type) (enc : TypeId × Value → H) :
    ReturnsInHanded {} Try.checked os 6 .any (Rows.pactTakersSpec.pre6 enc Try.prog Try.f6 Rows.pactTakersRow.domain false) (Rows.pactTakersSpec.post enc Try.prog Try.f6 false true false false) := by
  refine returnsInHanded_of_change (C := Try.checked) ownKnobs started (by kernel_rfl) Try.func6
    (ChangeSpec.witness6 (enc := enc) (C := Try.checked) false ⟨#[], #[.agg #[.int .u8 0, .int .u8 0, .int .u8 0, .int .u8 0], .slice none 0 0, .slice none 0 0], []⟩ 8 (by kernel_rfl) (by kernel_rfl) (by kernel_rfl) (by kernel_rfl)) ?_
  intro W base args ds gs before hval0 hW hcnd _
  have hval : ∀ (j : Nat) t v, Try.f6.params[j]? = some t → args[j]? = some v → Value.okWide Try.prog W .any base t v := hval0
  have hW' := hW
  obtain ⟨p, q, hA0, hV, rfl, hfz, hnd⟩ := hW
  have hA : DataW.TrodAll enc Try.prog W 0 (fun _ => true) true Try.f6.params.toList args.toList ds p := hA0
  rw [Try.params6] at hA hval
  obtain ⟨v0, vs0, d0, ds0, p0, q0, hargs, rfl, rfl, h0, r0⟩ := trodAll_cons hA
  obtain ⟨v1, vs1, d1, ds1, p1, q1, rfl, rfl, rfl, h1, r1⟩ := trodAll_cons r0
  obtain ⟨v2, vs2, d2, ds2, p2, q2, rfl, rfl, rfl, h2, r2⟩ := trodAll_cons r1
  obtain ⟨rfl, rfl, rfl⟩ := trodAll_nil r2
  obtain rfl : args = #[v0, v1, v2] := by cases args; simp_all
  obtain ⟨rfl, rfl⟩ := trodVars_none hV
  have k0 : ∀ (W' : World), Below W.heap.size W W' → DataW.Trod enc Try.prog W' 0 (fun b => decide (b < W.heap.size)) true 76 v0 d0 p0 := fun W' bel => Below.trod laidOut (by kernel_rfl) (of_decide_eq_true (by kernel_rfl)) h0 bel (fun x hx => by obtain ⟨fuel, hf⟩ := h0; exact DataW.trod_lt _ _ _ _ hf x hx)
  have k1 : ∀ (W' : World), Below W.heap.size W W' → DataW.Trod enc Try.prog W' 0 (fun b => decide (b < W.heap.size)) true 48 v1 d1 p1 := fun W' bel => Below.trod laidOut (by kernel_rfl) (of_decide_eq_true (by kernel_rfl)) h1 bel (fun x hx => by obtain ⟨fuel, hf⟩ := h1; exact DataW.trod_lt _ _ _ _ hf x hx)
  have k2 : ∀ (W' : World), Below W.heap.size W W' → DataW.Trod enc Try.prog W' 0 (fun b => decide (b < W.heap.size)) true 32 v2 d2 p2 := fun W' bel => Below.trod laidOut (by kernel_rfl) (of_decide_eq_true (by kernel_rfl)) h2 bel (fun x hx => by obtain ⟨fuel, hf⟩ := h2; exact DataW.trod_lt _ _ _ _ hf x hx)
  obtain ⟨a0, b0, c0, d0, rfl, wa0⟩ := arr_u8x4 (hval 0 76 v0 rfl rfl) h0
  obtain ⟨zs1, p1', cap1, rfl, c1, w1⟩ := slice_ints Try.underlying48 Try.underlying5 (by kernel_rfl) (hval 1 48 v1 rfl rfl) h1
  obtain ⟨zs2, p2', cap2, rfl, c2, w2⟩ := slice_ints Try.underlying32 Try.underlying3 (by kernel_rfl) (hval 2 32 v2 rfl rfl) h2
  clear hA0 hval0 hval
  refine (pactTakers_walk a0 b0 c0 d0 zs1 p1' cap1 zs2 p2' cap2 W wa0 c1 w1 c2).mono fun e W' ⟨he, hg⟩ => ?_
  have bel : Below W.heap.size W W' := ⟨hg.os, hg.tape, hg.output, hg.size, fun k hk => hg.block k hk (by simp)⟩
  subst he
  exact ⟨_, rfl, _, _, _, [], _, [], hW', trodAll_mk1 (shut_bool Try.underlying4 _), (trodAll_cons_mk (k0 W' bel) (trodAll_cons_mk (k1 W' bel) (trodAll_cons_mk (k2 W' bel) trodAll_mk0))), rfl, bel.frame _, fun h => by cases h⟩

theorem over : Rows.pactTakersRow.holds Try.pinned (OpenSpec.ofChange Rows.pactTakersSpec) :=
  OpenClaim.holds_of_wide 6 Try.f6 rfl rfl rfl rfl rfl rfl rfl ⟨rfl, rfl, rfl, rfl, rfl⟩ rfl rfl rfl rfl rfl (by kernel_rfl) Try.func6 (by kernel_rfl)
    (of_decide_eq_true (by kernel_rfl)) (by unfold Func.isWrapper; first | (rw [if_pos (by decide +kernel)]; kernel_rfl) | (rw [if_neg (by decide +kernel)]; exact ⟨rfl, rfl⟩))
    (fun os started H enc _ => lifted os started H enc)

theorem proved : Rows.PactTakersSaid :=
  over
#print axioms proved
end pactTakers
end Go.Proofs.Ytcoedmiichppdaa
