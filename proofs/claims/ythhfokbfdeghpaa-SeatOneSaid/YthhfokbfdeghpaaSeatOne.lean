/-
  SeatOne holds: the row over its walk.
-/
import Derived.Test.YthhfokbfdeghpaaSeatOneW
import Derived.Test.YthhfokbfdeghpaaOpens
import Derived.Test.YthhfokbfdeghpaaRowF
namespace Go.Proofs.Ythhfokbfdeghpaa
open Go Go.RowKit
set_option linter.unusedVariables false
open Go.ChangeShapes Go.WideShapes Go.ChangeAt

namespace seatOne
set_option maxRecDepth 100000 in
theorem lifted (os : Os) (started : os.Started) (H : Type) (enc : TypeId × Value → H) :
    ReturnsInHanded {} Try.checked os 9 .any (Rows.seatOneSpec.pre6 enc Try.prog Try.f9 Rows.seatOneRow.domain false) (Rows.seatOneSpec.post enc Try.prog Try.f9 false true false false) := by
  refine returnsInHanded_of_change (C := Try.checked) ownKnobs started (by kernel_rfl) Try.func9
    (ChangeSpec.witness6 (enc := enc) (C := Try.checked) false ⟨#[], #[.slice none 0 0, .int .u8 0], []⟩ 8 (by kernel_rfl) (by kernel_rfl) (by kernel_rfl) (by kernel_rfl)) ?_
  intro W base args ds gs before hval0 hW hcnd _
  have hval : ∀ (j : Nat) t v, Try.f9.params[j]? = some t → args[j]? = some v → Value.okWide Try.prog W .any base t v := hval0
  have hW' := hW
  obtain ⟨p, q, hA0, hV, rfl, hfz, hnd⟩ := hW
  have hA : DataW.TrodAll enc Try.prog W 0 (fun _ => true) true Try.f9.params.toList args.toList ds p := hA0
  rw [Try.params9] at hA hval
  obtain ⟨v0, vs0, d0, ds0, p0, q0, hargs, rfl, rfl, h0, r0⟩ := trodAll_cons hA
  obtain ⟨v1, vs1, d1, ds1, p1, q1, rfl, rfl, rfl, h1, r1⟩ := trodAll_cons r0
  obtain ⟨rfl, rfl, rfl⟩ := trodAll_nil r1
  obtain rfl : args = #[v0, v1] := by cases args; simp_all
  obtain ⟨rfl, rfl⟩ := trodVars_none hV
  have k0 : ∀ (W' : World), Below W.heap.size W W' → DataW.Trod enc Try.prog W' 0 (fun b => decide (b < W.heap.size)) true 79 v0 d0 p0 := fun W' bel => Below.trod laidOut (by kernel_rfl) (of_decide_eq_true (by kernel_rfl)) h0 bel (fun x hx => by obtain ⟨fuel, hf⟩ := h0; exact DataW.trod_lt _ _ _ _ hf x hx)
  have k1 : ∀ (W' : World), Below W.heap.size W W' → DataW.Trod enc Try.prog W' 0 (fun b => decide (b < W.heap.size)) true 5 v1 d1 p1 := fun W' bel => Below.trod laidOut (by kernel_rfl) (of_decide_eq_true (by kernel_rfl)) h1 bel (fun x hx => by obtain ⟨fuel, hf⟩ := h1; exact DataW.trod_lt _ _ _ _ hf x hx)
  obtain ⟨zs0, p0', cap0, rfl, c0, w0⟩ := slice_ints Try.underlying79 Try.underlying82 (by kernel_rfl) (hval 0 79 v0 rfl rfl) h0
  obtain ⟨a1, rfl, _, _, w1⟩ := open_int Try.underlying5 (hval 1 5 v1 rfl rfl) h1
  clear hA0 hval0 hval
  refine (seatOne_walk zs0 p0' cap0 a1 W c0 w0 w1).mono fun e W' ⟨he, hg⟩ => ?_
  have bel : Below W.heap.size W W' := ⟨hg.os, hg.tape, hg.output, hg.size, fun k hk => hg.block k hk (by simp)⟩
  subst he
  exact ⟨_, rfl, _, _, _, [], _, [], hW', trodAll_mk1 (shut_bool Try.underlying4 _), (trodAll_cons_mk (k0 W' bel) (trodAll_cons_mk (k1 W' bel) trodAll_mk0)), rfl, bel.frame _, fun h => by cases h⟩

theorem j1 : (Rows.seatOneRow.wf (OpenSpec.ofChange Rows.seatOneSpec)) = true := by kernel_rfl
theorem j4 : (Try.f9.params.all (Try.prog.readableRec ·)) = true := by kernel_rfl
theorem j5 : (namedTie Try.prog Rows.seatOneRow.named Rows.seatOneSpec.vars) = true := by kernel_rfl
theorem j6 : ((Rows.seatOneRow.stops == [])) = true := by kernel_rfl
theorem j8 : ((Rows.seatOneRow.knobs == [])) = true := by kernel_rfl
theorem j10 : ((Rows.seatOneRow.inPlace == Try.prog.inPlace 9)) = true := by kernel_rfl
theorem j11 : ((Rows.seatOneRow.unfollowed == Try.prog.unfollowed 9)) = true := by kernel_rfl
theorem j12 : ((Rows.seatOneRow.recurses == Try.prog.recurses 9)) = true := by kernel_rfl
theorem j13 : ((Rows.seatOneRow.named == Try.prog.varsNamed 9)) = true := by kernel_rfl
theorem j14 : ((Rows.seatOneRow.maps == (Try.f9.params.toList ++ Rows.seatOneSpec.plain.varTypes Try.prog).any (Try.prog.mapsRec ·))) = true := by kernel_rfl
theorem j15 : ((Rows.seatOneRow.ifaces == (Try.f9.params.toList ++ Rows.seatOneSpec.plain.varTypes Try.prog).any (Try.prog.ifacesRec ·))) = true := by kernel_rfl
theorem j16 : ((Rows.seatOneRow.mapsOut == Try.prog.mapsAmong Try.f9.resultTypes.toList)) = true := by kernel_rfl
theorem j17 : ((Rows.seatOneRow.loops == (Try.f9.params.toList ++ Rows.seatOneSpec.plain.varTypes Try.prog).any (Try.prog.loopsFrom ·))) = true := by kernel_rfl
theorem j18 : ((Rows.seatOneRow.wideKeys == (Try.f9.params.toList ++ Rows.seatOneSpec.plain.varTypes Try.prog ++ Try.f9.resultTypes.toList).any (Try.prog.wideKeysFrom ·))) = true := by kernel_rfl
theorem j19 : (Rows.seatOneSpec.vars.all (Try.prog.varReadable ·)) = true := by kernel_rfl
theorem j20 : (Try.f9.resultTypes.all (fun t => Try.prog.readableRec t && decide (t < Try.prog.types.size))) = true := by kernel_rfl
theorem j21 : ((Rows.seatOneRow.ifacesOut == Try.f9.resultTypes.toList.any (Try.prog.ifacesRec ·))) = true := by kernel_rfl
theorem j22 : ((Rows.seatOneRow.loopsOut == Try.f9.resultTypes.toList.any (Try.prog.loopsFrom ·))) = true := by kernel_rfl
theorem j23 : ((Rows.seatOneRow.plainKeys == Try.prog.plainKeys)) = true := by rw [show Rows.seatOneRow.plainKeys = Rows.spanAllRow.plainKeys from by kernel_rfl]; exact rowF23
theorem j24 : (Rows.seatOneRow.shortTexts.isNone) = true := by kernel_rfl
theorem j27 : ((Rows.seatOneRow.lifted == Try.prog.liftsFinal)) = true := by rw [show Rows.seatOneRow.lifted = Rows.spanAllRow.lifted from by kernel_rfl]; exact rowF27
theorem j28 : ((Try.prog.make == some Rows.seatOneRow.make)) = true := by rw [show Rows.seatOneRow.make = Rows.spanAllRow.make from by kernel_rfl]; exact rowF28
theorem j29 : ((Rows.seatOneRow.kinds == (if Rows.seatOneRow.domain.isEmpty then [] else Try.f9.params.toList.map fun t => match Try.prog.underlying t with | some (.int k) => some k | _ => none))) = true := by kernel_rfl
theorem j30 : ((Rows.seatOneRow.pinned == Rows.seatOneRow.pinnedBy)) = true := by kernel_rfl
theorem j31 : ((Rows.seatOneRow.veiled == (Try.f9.params.toList ++ Rows.seatOneSpec.plain.varTypes Try.prog ++ Try.f9.resultTypes.toList).any (Try.prog.veiledRec ·))) = true := by kernel_rfl
theorem j32 : (Rows.seatOneRow.veiledFits Try.prog Try.f9.params.toList (Try.f9.params.toList ++ Rows.seatOneSpec.plain.varTypes Try.prog ++ Try.f9.resultTypes.toList)) = true := by kernel_rfl
theorem jn : Try.prog.funcNamed Rows.seatOneRow.func = some 9 := by kernel_rfl
theorem ji : Try.f9.isInstance Try.prog Rows.seatOneRow.origin Rows.seatOneRow.targs := of_decide_eq_true (by kernel_rfl)
theorem jw : Try.f9.isWrapper Try.prog Rows.seatOneRow.wrapper Rows.seatOneRow.mainSum := by unfold Func.isWrapper; first | (rw [if_pos (by decide +kernel)]; kernel_rfl) | (rw [if_neg (by decide +kernel)]; exact ⟨rfl, rfl⟩)
set_option maxRecDepth 100000 in
theorem joined : joinedFacts Try.prog 9 Try.f9 Rows.seatOneSpec Rows.seatOneRow = true :=
  (and_of (and_of (and_of (and_of (and_of (and_of (and_of (and_of (and_of (and_of (and_of (and_of (and_of (and_of (and_of (and_of (and_of (and_of (and_of (and_of (and_of (and_of (and_of (and_of (and_of (and_of (and_of (and_of (and_of (and_of (and_of j1 rowF2) rowF3) j4) j5) j6) rowF7) j8) rowF9) j10) j11) j12) j13) j14) j15) j16) j17) j18) j19) j20) j21) j22) j23) j24) rowF25) rowF26) j27) j28) j29) j30) j31) j32)

theorem over : Rows.seatOneRow.holds Try.pinned (OpenSpec.ofChange Rows.seatOneSpec) :=
  OpenClaim.holds_of_wide 9 Try.f9 rfl rfl rfl rfl rfl rfl rfl ⟨rfl, rfl, rfl, rfl, rfl⟩ rfl rfl rfl rfl rfl jn Try.func9 joined ji jw
    (fun os started H enc _ => lifted os started H enc)

theorem proved : Rows.SeatOneSaid :=
  over
#print axioms proved
end seatOne
end Go.Proofs.Ythhfokbfdeghpaa
