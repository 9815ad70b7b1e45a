/-
  Arguments that come in: deeds of package presidiolaw11 (two numbers and registers).
-/
import Derived.Test.YtlgfopfibopcnaaRecs
namespace Go.Proofs.Ytlgfopfibopcnaa
open Go Go.ChangeShapes Go.WideShapes Go.ChangeAt Go.RowKit
set_option linter.unusedVariables false

/-- Deeds of package presidiolaw11. -/
def Deed11 (cs : List Value) : Prop := ∃ a b x0 x1 x2 x3 x4 x5 x6 x7 : Int, cs = [.int .i64 a, .int .i64 b, .int .u64 x0, .int .u64 x1, .int .u64 x2, .int .u64 x3, .int .u64 x4, .int .u64 x5, .int .u64 x6, .int .u64 x7] ∧ (Lit.int .i64 a).wf = true ∧ (Lit.int .i64 b).wf = true

set_option maxRecDepth 100000 in
theorem deed11 {H : Type} {enc : TypeId × Value → H} {W : World} (fuel : Nat) (cs : List Value) (x : DataW H × List MemPlace) (h : DataW.trod enc Try.prog W 0 (fun _ => true) true fuel 50 cs = some x) : Deed11 cs := by
  obtain ⟨xs, n, _, _, hl, hx, hf⟩ := DataW.trod_struct Try.underlying50 h
  have hl4 : cs.length = 10 := by rw [hl]; kernel_rfl
  have hcs : ∃ v0 v1 v2 v3 v4 v5 v6 v7 v8 v9, cs = [v0, v1, v2, v3, v4, v5, v6, v7, v8, v9] := by
    match cs, hl4 with
    | [v0, v1, v2, v3, v4, v5, v6, v7, v8, v9], _ => exact ⟨_, _, _, _, _, _, _, _, _, _, rfl⟩
  have hx4 : xs.length = 3 := by rw [hx]; rfl
  have one3 : Try.prog.cellsOf 3 = 1 := by kernel_rfl
  have hone : Try.prog.cellsOf 23 = 1 := by kernel_rfl
  have hsize : Try.prog.cellsOf 48 = 8 := by kernel_rfl
  have h0 := hf 0 _ rfl
  have h1 := hf 1 _ rfl
  have h2 := hf 2 _ rfl
  rw [List.getElem?_eq_getElem (by omega)] at h0 h1 h2
  obtain ⟨a, ha, wa⟩ := field_int Try.underlying3 one3 h0
  obtain ⟨b, hb, wb⟩ := field_int Try.underlying3 one3 h1
  have h2' : DataW.trod enc Try.prog W 0 (fun _ => true) true n 48 ((cs.drop 2).take 8) = some xs[2] := by
    have := h2
    change DataW.trod enc Try.prog W 0 (fun _ => true) true n 48 ((cs.drop 2).take (Try.prog.cellsOf 48)) = some xs[2] at this
    rwa [hsize] at this
  obtain ⟨_, zs, hz, hzl⟩ := arr_ints (xs := ((cs.drop 2).take 8).toArray) (d := xs[2].1) (ps := xs[2].2) Try.underlying48 Try.underlying23 hone hsize (by simp; omega) ⟨n, by simpa [Value.cells] using h2'⟩
  match zs, hzl with
  | [x0, x1, x2, x3, x4, x5, x6, x7], _ =>
    refine ⟨a, b, x0, x1, x2, x3, x4, x5, x6, x7, ?_, wa, wb⟩
    obtain ⟨v0, v1, v2, v3, v4, v5, v6, v7, v8, v9, rfl⟩ := hcs
    simp at ha hb hz
    obtain ⟨z0, z1, z2, z3, z4, z5, z6, z7⟩ := hz
    simp [ha, hb, z0, z1, z2, z3, z4, z5, z6, z7]

set_option maxRecDepth 100000 in
theorem slice_deeds11 {H : Type} {enc : TypeId × Value → H} {W : World} {b0 : Nat} {r : Reach} {v : Value} {d : DataW H} {ps : List MemPlace} (hval : Value.okWide Try.prog W r b0 40 v) (hd : DataW.Trod enc Try.prog W 0 (fun _ => true) true 40 v d ps) :
    ∃ (n : Nat) (p : Option Addr) (cap : Nat), v = .slice p n cap ∧ ∀ i, i < n → ∃ g off, p = some ⟨g, off, none⟩ ∧ g < W.heap.size ∧ ∃ cs : List Value, Deed11 cs ∧ cs.length = 10 ∧ ∀ j, j < 10 → W.cell? ⟨g, off + i * 10 + j, none⟩ = cs[j]? :=
  slice_recs Try.underlying40 (by kernel_rfl) (by decide) Deed11 deed11 hval hd

end Go.Proofs.Ytlgfopfibopcnaa
