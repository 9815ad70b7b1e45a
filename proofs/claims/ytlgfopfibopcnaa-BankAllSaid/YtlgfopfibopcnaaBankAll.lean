/-
  BankAll holds: the row over its walk.
-/
import Derived.Test.YtlgfopfibopcnaaBankAllW
import Derived.Test.YtlgfopfibopcnaaOpens
import Derived.Test.YtlgfopfibopcnaaRowF
namespace Go.Proofs.Ytlgfopfibopcnaa
open Go Go.RowKit
set_option linter.unusedVariables false
open Go.ChangeShapes Go.WideShapes Go.ChangeAt

namespace bankAll
set_option maxRecDepth 100000 in
theorem lifted (os : Os) (started : os.Started) (H : Type) (enc : TypeId × Value → H) :
    ReturnsInHanded {} Try.checked os 4 .any (Rows.bankAllSpec.pre6 enc Try.prog Try.f4 Rows.bankAllRow.domain false) (Rows.bankAllSpec.post enc Try.prog Try.f4 false true false false) := by
  refine returnsInHanded_of_change (C := Try.checked) ownKnobs started (by kernel_rfl) Try.func4
    (ChangeSpec.witness6 (enc := enc) (C := Try.checked) false ⟨#[], #[.slice none 0 0, .int .i64 0], []⟩ 8 (by kernel_rfl) (by kernel_rfl) (by kernel_rfl) (by kernel_rfl)) ?_
  intro W base args ds gs before hval0 hW hcnd _
  have hval : ∀ (j : Nat) t v, Try.f4.params[j]? = some t → args[j]? = some v → Value.okWide Try.prog W .any base t v := hval0
  have hW' := hW
  obtain ⟨p, q, hA0, hV, rfl, hfz, hnd⟩ := hW
  have hA : DataW.TrodAll enc Try.prog W 0 (fun _ => true) true Try.f4.params.toList args.toList ds p := hA0
  rw [Try.params4] at hA hval
  obtain ⟨v0, vs0, d0, ds0, p0, q0, hargs, rfl, rfl, h0, r0⟩ := trodAll_cons hA
  obtain ⟨v1, vs1, d1, ds1, p1, q1, rfl, rfl, rfl, h1, r1⟩ := trodAll_cons r0
  obtain ⟨rfl, rfl, rfl⟩ := trodAll_nil r1
  obtain rfl : args = #[v0, v1] := by cases args; simp_all
  obtain ⟨rfl, rfl⟩ := trodVars_none hV
  have k0 : ∀ (W' : World), Below W.heap.size W W' → DataW.Trod enc Try.prog W' 0 (fun b => decide (b < W.heap.size)) true 40 v0 d0 p0 := fun W' bel => Below.trod laidOut (by kernel_rfl) (of_decide_eq_true (by kernel_rfl)) h0 bel (fun x hx => by obtain ⟨fuel, hf⟩ := h0; exact DataW.trod_lt _ _ _ _ hf x hx)
  have k1 : ∀ (W' : World), Below W.heap.size W W' → DataW.Trod enc Try.prog W' 0 (fun b => decide (b < W.heap.size)) true 3 v1 d1 p1 := fun W' bel => Below.trod laidOut (by kernel_rfl) (of_decide_eq_true (by kernel_rfl)) h1 bel (fun x hx => by obtain ⟨fuel, hf⟩ := h1; exact DataW.trod_lt _ _ _ _ hf x hx)
  obtain ⟨n0, p0, cap0, rfl, hz0⟩ := slice_deeds11 (hval 0 40 v0 rfl rfl) h0
  obtain ⟨a1, rfl, _, _, w1⟩ := open_int Try.underlying3 (hval 1 3 v1 rfl rfl) h1
  clear hA0 hval0 hval
  refine (bankAll_walk n0 p0 cap0 a1 W hz0 w1).mono fun e W' ⟨he, hg⟩ => ?_
  have bel : Below W.heap.size W W' := ⟨hg.os, hg.tape, hg.output, hg.size, fun k hk => hg.block k hk (by simp)⟩
  subst he
  exact ⟨_, rfl, _, _, _, [], _, [], hW', trodAll_mk1 (shut_bool Try.underlying4 _), (trodAll_cons_mk (k0 W' bel) (trodAll_cons_mk (k1 W' bel) trodAll_mk0)), rfl, bel.frame _, fun h => by cases h⟩

theorem j1 : (Rows.bankAllRow.wf (OpenSpec.ofChange Rows.bankAllSpec)) = true := by kernel_rfl
theorem j4 : (Try.f4.params.all (Try.prog.readableRec ·)) = true := by kernel_rfl
theorem j5 : (namedTie Try.prog Rows.bankAllRow.named Rows.bankAllSpec.vars) = true := by kernel_rfl
theorem j6 : ((Rows.bankAllRow.stops == [])) = true := by kernel_rfl
theorem j8 : ((Rows.bankAllRow.knobs == [])) = true := by kernel_rfl
theorem j10 : ((Rows.bankAllRow.inPlace == Try.prog.inPlace 4)) = true := by kernel_rfl
theorem j11 : ((Rows.bankAllRow.unfollowed == Try.prog.unfollowed 4)) = true := by kernel_rfl
theorem j12 : ((Rows.bankAllRow.recurses == Try.prog.recurses 4)) = true := by kernel_rfl
theorem j13 : ((Rows.bankAllRow.named == Try.prog.varsNamed 4)) = true := by kernel_rfl
theorem j14 : ((Rows.bankAllRow.maps == (Try.f4.params.toList ++ Rows.bankAllSpec.plain.varTypes Try.prog).any (Try.prog.mapsRec ·))) = true := by kernel_rfl
theorem j15 : ((Rows.bankAllRow.ifaces == (Try.f4.params.toList ++ Rows.bankAllSpec.plain.varTypes Try.prog).any (Try.prog.ifacesRec ·))) = true := by kernel_rfl
theorem j16 : ((Rows.bankAllRow.mapsOut == Try.prog.mapsAmong Try.f4.resultTypes.toList)) = true := by kernel_rfl
theorem j17 : ((Rows.bankAllRow.loops == (Try.f4.params.toList ++ Rows.bankAllSpec.plain.varTypes Try.prog).any (Try.prog.loopsFrom ·))) = true := by kernel_rfl
theorem j18 : ((Rows.bankAllRow.wideKeys == (Try.f4.params.toList ++ Rows.bankAllSpec.plain.varTypes Try.prog ++ Try.f4.resultTypes.toList).any (Try.prog.wideKeysFrom ·))) = true := by kernel_rfl
theorem j19 : (Rows.bankAllSpec.vars.all (Try.prog.varReadable ·)) = true := by kernel_rfl
theorem j20 : (Try.f4.resultTypes.all (fun t => Try.prog.readableRec t && decide (t < Try.prog.types.size))) = true := by kernel_rfl
theorem j21 : ((Rows.bankAllRow.ifacesOut == Try.f4.resultTypes.toList.any (Try.prog.ifacesRec ·))) = true := by kernel_rfl
theorem j22 : ((Rows.bankAllRow.loopsOut == Try.f4.resultTypes.toList.any (Try.prog.loopsFrom ·))) = true := by kernel_rfl
theorem j23 : ((Rows.bankAllRow.plainKeys == Try.prog.plainKeys)) = true := by rw [show Rows.bankAllRow.plainKeys = Rows.markAllRow.plainKeys from by kernel_rfl]; exact rowF23
theorem j24 : (Rows.bankAllRow.shortTexts.isNone) = true := by kernel_rfl
theorem j27 : ((Rows.bankAllRow.lifted == Try.prog.liftsFinal)) = true := by rw [show Rows.bankAllRow.lifted = Rows.markAllRow.lifted from by kernel_rfl]; exact rowF27
theorem j28 : ((Try.prog.make == some Rows.bankAllRow.make)) = true := by rw [show Rows.bankAllRow.make = Rows.markAllRow.make from by kernel_rfl]; exact rowF28
theorem j29 : ((Rows.bankAllRow.kinds == (if Rows.bankAllRow.domain.isEmpty then [] else Try.f4.params.toList.map fun t => match Try.prog.underlying t with | some (.int k) => some k | _ => none))) = true := by kernel_rfl
theorem j30 : ((Rows.bankAllRow.pinned == Rows.bankAllRow.pinnedBy)) = true := by kernel_rfl
theorem j31 : ((Rows.bankAllRow.veiled == (Try.f4.params.toList ++ Rows.bankAllSpec.plain.varTypes Try.prog ++ Try.f4.resultTypes.toList).any (Try.prog.veiledRec ·))) = true := by kernel_rfl
theorem j32 : (Rows.bankAllRow.veiledFits Try.prog Try.f4.params.toList (Try.f4.params.toList ++ Rows.bankAllSpec.plain.varTypes Try.prog ++ Try.f4.resultTypes.toList)) = true := by kernel_rfl
theorem jn : Try.prog.funcNamed Rows.bankAllRow.func = some 4 := by kernel_rfl
theorem ji : Try.f4.isInstance Try.prog Rows.bankAllRow.origin Rows.bankAllRow.targs := of_decide_eq_true (by kernel_rfl)
theorem jw : Try.f4.isWrapper Try.prog Rows.bankAllRow.wrapper Rows.bankAllRow.mainSum := by unfold Func.isWrapper; first | (rw [if_pos (by decide +kernel)]; kernel_rfl) | (rw [if_neg (by decide +kernel)]; exact ⟨rfl, rfl⟩)
set_option maxRecDepth 100000 in
theorem joined : joinedFacts Try.prog 4 Try.f4 Rows.bankAllSpec Rows.bankAllRow = true :=
  (and_of (and_of (and_of (and_of (and_of (and_of (and_of (and_of (and_of (and_of (and_of (and_of (and_of (and_of (and_of (and_of (and_of (and_of (and_of (and_of (and_of (and_of (and_of (and_of (and_of (and_of (and_of (and_of (and_of (and_of (and_of j1 rowF2) rowF3) j4) j5) j6) rowF7) j8) rowF9) j10) j11) j12) j13) j14) j15) j16) j17) j18) j19) j20) j21) j22) j23) j24) rowF25) rowF26) j27) j28) j29) j30) j31) j32)

theorem over : Rows.bankAllRow.holds Try.pinned (OpenSpec.ofChange Rows.bankAllSpec) :=
  OpenClaim.holds_of_wide 4 Try.f4 rfl rfl rfl rfl rfl rfl rfl ⟨rfl, rfl, rfl, rfl, rfl⟩ rfl rfl rfl rfl rfl jn Try.func4 joined ji jw
    (fun os started H enc _ => lifted os started H enc)

theorem proved : Rows.BankAllSaid :=
  over
#print axioms proved
end bankAll
end Go.Proofs.Ytlgfopfibopcnaa
