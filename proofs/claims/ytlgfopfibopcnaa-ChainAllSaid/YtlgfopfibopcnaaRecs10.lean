/-
  Arguments that come in: deeds of package presidiolaw10.
-/
import Derived.Test.YtlgfopfibopcnaaRecs
namespace Go.Proofs.Ytlgfopfibopcnaa
open Go Go.ChangeShapes Go.WideShapes Go.ChangeAt Go.RowKit
set_option linter.unusedVariables false

/-- Deeds of package presidiolaw10. -/
def Deed10 (cs : List Value) : Prop := ∃ a b c : Int, cs = [.int .i64 a, .int .i64 b, .int .i64 c] ∧ (Lit.int .i64 a).wf = true ∧ (Lit.int .i64 b).wf = true ∧ (Lit.int .i64 c).wf = true

set_option maxRecDepth 100000 in
theorem deed10 {H : Type} {enc : TypeId × Value → H} {W : World} (fuel : Nat) (cs : List Value) (x : DataW H × List MemPlace) (h : DataW.trod enc Try.prog W 0 (fun _ => true) true fuel 65 cs = some x) : Deed10 cs := by
  obtain ⟨xs, n, _, _, hl, hx, hf⟩ := DataW.trod_struct Try.underlying65 h
  have hl4 : cs.length = 3 := by rw [hl]; kernel_rfl
  have hx4 : xs.length = 3 := by rw [hx]; rfl
  have one3 : Try.prog.cellsOf 3 = 1 := by kernel_rfl
  have h0 := hf 0 _ rfl
  have h1 := hf 1 _ rfl
  have h2 := hf 2 _ rfl
  rw [List.getElem?_eq_getElem (by omega)] at h0 h1 h2
  obtain ⟨a, ha, wa⟩ := field_int Try.underlying3 one3 h0
  obtain ⟨b, hb, wb⟩ := field_int Try.underlying3 one3 h1
  obtain ⟨c, hc, wc⟩ := field_int Try.underlying3 one3 h2
  refine ⟨a, b, c, ?_, wa, wb, wc⟩
  match cs, hl4 with
  | [v0, v1, v2], _ => simp at ha hb hc; simp [ha, hb, hc]

set_option maxRecDepth 100000 in
theorem slice_deeds10 {H : Type} {enc : TypeId × Value → H} {W : World} {b0 : Nat} {r : Reach} {v : Value} {d : DataW H} {ps : List MemPlace} (hval : Value.okWide Try.prog W r b0 58 v) (hd : DataW.Trod enc Try.prog W 0 (fun _ => true) true 58 v d ps) :
    ∃ (n : Nat) (p : Option Addr) (cap : Nat), v = .slice p n cap ∧ ∀ i, i < n → ∃ g off, p = some ⟨g, off, none⟩ ∧ g < W.heap.size ∧ ∃ cs : List Value, Deed10 cs ∧ cs.length = 3 ∧ ∀ j, j < 3 → W.cell? ⟨g, off + i * 3 + j, none⟩ = cs[j]? :=
  slice_recs Try.underlying58 (by kernel_rfl) (by decide) Deed10 deed10 hval hd

end Go.Proofs.Ytlgfopfibopcnaa
