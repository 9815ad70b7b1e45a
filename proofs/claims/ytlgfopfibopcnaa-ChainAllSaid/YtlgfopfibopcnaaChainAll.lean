/-
  ChainAll holds: the row over its walk.
-/
import Derived.Test.YtlgfopfibopcnaaChainAllW
import Derived.Test.YtlgfopfibopcnaaOpens
import Derived.Test.YtlgfopfibopcnaaRowF
namespace Go.Proofs.Ytlgfopfibopcnaa
open Go Go.RowKit
set_option linter.unusedVariables false
open Go.ChangeShapes Go.WideShapes Go.ChangeAt

namespace chainAll
set_option maxRecDepth 100000 in
theorem lifted (os : Os) (started : os.Started) (H : Type) (enc : TypeId × Value → H) :
    ReturnsInHanded {} Try.checked os 5 .any (Rows.chainAllSpec.pre6 enc Try.prog Try.f5 Rows.chainAllRow.domain false) (Rows.chainAllSpec.post enc Try.prog Try.f5 false true false false) := by
  refine returnsInHanded_of_change (C := Try.checked) ownKnobs started (by kernel_rfl) Try.func5
    (ChangeSpec.witness6 (enc := enc) (C := Try.checked) false ⟨#[], #[.slice none 0 0], []⟩ 8 (by kernel_rfl) (by kernel_rfl) (by kernel_rfl) (by kernel_rfl)) ?_
  intro W base args ds gs before hval0 hW hcnd _
  have hval : ∀ (j : Nat) t v, Try.f5.params[j]? = some t → args[j]? = some v → Value.okWide Try.prog W .any base t v := hval0
  have hW' := hW
  obtain ⟨p, q, hA0, hV, rfl, hfz, hnd⟩ := hW
  have hA : DataW.TrodAll enc Try.prog W 0 (fun _ => true) true Try.f5.params.toList args.toList ds p := hA0
  rw [Try.params5] at hA hval
  obtain ⟨v0, vs0, d0, ds0, p0, q0, hargs, rfl, rfl, h0, r0⟩ := trodAll_cons hA
  obtain ⟨rfl, rfl, rfl⟩ := trodAll_nil r0
  obtain rfl : args = #[v0] := by cases args; simp_all
  obtain ⟨rfl, rfl⟩ := trodVars_none hV
  have k0 : ∀ (W' : World), Below W.heap.size W W' → DataW.Trod enc Try.prog W' 0 (fun b => decide (b < W.heap.size)) true 58 v0 d0 p0 := fun W' bel => Below.trod laidOut (by kernel_rfl) (of_decide_eq_true (by kernel_rfl)) h0 bel (fun x hx => by obtain ⟨fuel, hf⟩ := h0; exact DataW.trod_lt _ _ _ _ hf x hx)
  obtain ⟨n0, p0, cap0, rfl, hz0⟩ := slice_deeds10 (hval 0 58 v0 rfl rfl) h0
  clear hA0 hval0 hval
  refine (chainAll_walk n0 p0 cap0 W hz0).mono fun e W' ⟨he, hg⟩ => ?_
  have bel : Below W.heap.size W W' := ⟨hg.os, hg.tape, hg.output, hg.size, fun k hk => hg.block k hk (by simp)⟩
  subst he
  exact ⟨_, rfl, _, _, _, [], _, [], hW', trodAll_mk1 (shut_bool Try.underlying4 _), (trodAll_cons_mk (k0 W' bel) trodAll_mk0), rfl, bel.frame _, fun h => by cases h⟩

theorem j1 : (Rows.chainAllRow.wf (OpenSpec.ofChange Rows.chainAllSpec)) = true := by kernel_rfl
theorem j4 : (Try.f5.params.all (Try.prog.readableRec ·)) = true := by kernel_rfl
theorem j5 : (namedTie Try.prog Rows.chainAllRow.named Rows.chainAllSpec.vars) = true := by kernel_rfl
theorem j6 : ((Rows.chainAllRow.stops == [])) = true := by kernel_rfl
theorem j8 : ((Rows.chainAllRow.knobs == [])) = true := by kernel_rfl
theorem j10 : ((Rows.chainAllRow.inPlace == Try.prog.inPlace 5)) = true := by kernel_rfl
theorem j11 : ((Rows.chainAllRow.unfollowed == Try.prog.unfollowed 5)) = true := by kernel_rfl
theorem j12 : ((Rows.chainAllRow.recurses == Try.prog.recurses 5)) = true := by kernel_rfl
theorem j13 : ((Rows.chainAllRow.named == Try.prog.varsNamed 5)) = true := by kernel_rfl
theorem j14 : ((Rows.chainAllRow.maps == (Try.f5.params.toList ++ Rows.chainAllSpec.plain.varTypes Try.prog).any (Try.prog.mapsRec ·))) = true := by kernel_rfl
theorem j15 : ((Rows.chainAllRow.ifaces == (Try.f5.params.toList ++ Rows.chainAllSpec.plain.varTypes Try.prog).any (Try.prog.ifacesRec ·))) = true := by kernel_rfl
theorem j16 : ((Rows.chainAllRow.mapsOut == Try.prog.mapsAmong Try.f5.resultTypes.toList)) = true := by kernel_rfl
theorem j17 : ((Rows.chainAllRow.loops == (Try.f5.params.toList ++ Rows.chainAllSpec.plain.varTypes Try.prog).any (Try.prog.loopsFrom ·))) = true := by kernel_rfl
theorem j18 : ((Rows.chainAllRow.wideKeys == (Try.f5.params.toList ++ Rows.chainAllSpec.plain.varTypes Try.prog ++ Try.f5.resultTypes.toList).any (Try.prog.wideKeysFrom ·))) = true := by kernel_rfl
theorem j19 : (Rows.chainAllSpec.vars.all (Try.prog.varReadable ·)) = true := by kernel_rfl
theorem j20 : (Try.f5.resultTypes.all (fun t => Try.prog.readableRec t && decide (t < Try.prog.types.size))) = true := by kernel_rfl
theorem j21 : ((Rows.chainAllRow.ifacesOut == Try.f5.resultTypes.toList.any (Try.prog.ifacesRec ·))) = true := by kernel_rfl
theorem j22 : ((Rows.chainAllRow.loopsOut == Try.f5.resultTypes.toList.any (Try.prog.loopsFrom ·))) = true := by kernel_rfl
theorem j23 : ((Rows.chainAllRow.plainKeys == Try.prog.plainKeys)) = true := by rw [show Rows.chainAllRow.plainKeys = Rows.markAllRow.plainKeys from by kernel_rfl]; exact rowF23
theorem j24 : (Rows.chainAllRow.shortTexts.isNone) = true := by kernel_rfl
theorem j27 : ((Rows.chainAllRow.lifted == Try.prog.liftsFinal)) = true := by rw [show Rows.chainAllRow.lifted = Rows.markAllRow.lifted from by kernel_rfl]; exact rowF27
theorem j28 : ((Try.prog.make == some Rows.chainAllRow.make)) = true := by rw [show Rows.chainAllRow.make = Rows.markAllRow.make from by kernel_rfl]; exact rowF28
theorem j29 : ((Rows.chainAllRow.kinds == (if Rows.chainAllRow.domain.isEmpty then [] else Try.f5.params.toList.map fun t => match Try.prog.underlying t with | some (.int k) => some k | _ => none))) = true := by kernel_rfl
theorem j30 : ((Rows.chainAllRow.pinned == Rows.chainAllRow.pinnedBy)) = true := by kernel_rfl
theorem j31 : ((Rows.chainAllRow.veiled == (Try.f5.params.toList ++ Rows.chainAllSpec.plain.varTypes Try.prog ++ Try.f5.resultTypes.toList).any (Try.prog.veiledRec ·))) = true := by kernel_rfl
theorem j32 : (Rows.chainAllRow.veiledFits Try.prog Try.f5.params.toList (Try.f5.params.toList ++ Rows.chainAllSpec.plain.varTypes Try.prog ++ Try.f5.resultTypes.toList)) = true := by kernel_rfl
theorem jn : Try.prog.funcNamed Rows.chainAllRow.func = some 5 := by kernel_rfl
theorem ji : Try.f5.isInstance Try.prog Rows.chainAllRow.origin Rows.chainAllRow.targs := of_decide_eq_true (by kernel_rfl)
theorem jw : Try.f5.isWrapper Try.prog Rows.chainAllRow.wrapper Rows.chainAllRow.mainSum := by unfold Func.isWrapper; first | (rw [if_pos (by decide +kernel)]; kernel_rfl) | (rw [if_neg (by decide +kernel)]; exact ⟨rfl, rfl⟩)
set_option maxRecDepth 100000 in
theorem joined : joinedFacts Try.prog 5 Try.f5 Rows.chainAllSpec Rows.chainAllRow = true :=
  (and_of (and_of (and_of (and_of (and_of (and_of (and_of (and_of (and_of (and_of (and_of (and_of (and_of (and_of (and_of (and_of (and_of (and_of (and_of (and_of (and_of (and_of (and_of (and_of (and_of (and_of (and_of (and_of (and_of (and_of (and_of j1 rowF2) rowF3) j4) j5) j6) rowF7) j8) rowF9) j10) j11) j12) j13) j14) j15) j16) j17) j18) j19) j20) j21) j22) j23) j24) rowF25) rowF26) j27) j28) j29) j30) j31) j32)

theorem over : Rows.chainAllRow.holds Try.pinned (OpenSpec.ofChange Rows.chainAllSpec) :=
  OpenClaim.holds_of_wide 5 Try.f5 rfl rfl rfl rfl rfl rfl rfl ⟨rfl, rfl, rfl, rfl, rfl⟩ rfl rfl rfl rfl rfl jn Try.func5 joined ji jw
    (fun os started H enc _ => lifted os started H enc)

theorem proved : Rows.ChainAllSaid :=
  over
#print axioms proved
end chainAll
end Go.Proofs.Ytlgfopfibopcnaa
