/-
  Arguments that come in: slices of structs of numbers.
-/
import Derived.Test.YtlgfopfibopcnaaOpens
import Derived.ChangeArms
namespace Go.Proofs.Ytlgfopfibopcnaa
open Go Go.ChangeShapes Go.WideShapes Go.ChangeAt Go.RowKit
set_option linter.unusedVariables false

set_option maxRecDepth 100000 in
theorem slice_recs {H : Type} {enc : TypeId × Value → H} {W : World} {b0 : Nat} {r : Reach} {t e : TypeId} {m : Nat} {v : Value} {d : DataW H} {ps : List MemPlace} (ht : Try.prog.underlying t = some (.slice e)) (hsz : Try.prog.cellsOf e = m) (hm : 0 < m) (Q : List Value → Prop)
    (hQ : ∀ fuel cs x, DataW.trod enc Try.prog W 0 (fun _ => true) true fuel e cs = some x → Q cs) (hval : Value.okWide Try.prog W r b0 t v) (hd : DataW.Trod enc Try.prog W 0 (fun _ => true) true t v d ps) :
    ∃ (n : Nat) (p : Option Addr) (cap : Nat), v = .slice p n cap ∧ ∀ i, i < n → ∃ g off, p = some ⟨g, off, none⟩ ∧ g < W.heap.size ∧ ∃ cs : List Value, Q cs ∧ cs.length = m ∧ ∀ j, j < m → W.cell? ⟨g, off + i * m + j, none⟩ = cs[j]? := by
  obtain ⟨fuel, hf⟩ := hd
  obtain ⟨a0, len, cap, rfl⟩ := okWide_slice ht hval
  rcases DataW.trod_slice ht hf with ⟨h0, _⟩ | ⟨a, len', cap', elems, rest, n, _, hcs, _, hb, hl, hmx, hlen, hel, _⟩
  · simp [Value.cells] at h0
    obtain ⟨rfl, rfl, rfl⟩ := h0
    exact ⟨0, none, 0, rfl, fun i hi => by omega⟩
  · simp [Value.cells] at hcs
    obtain ⟨rfl, rfl, rfl⟩ := hcs
    have each : ∀ i, i < len → ∃ cs, Q cs ∧ cs.length = m ∧ ∀ j, j < m → W.cell? ((a.add (i * m)).add j) = cs[j]? := fun i hi => by
      have h1 := hel i hi
      rw [List.getElem?_eq_getElem (by omega), hsz] at h1
      simp only [Option.bind_eq_some_iff] at h1
      obtain ⟨cs, h2, h3⟩ := h1
      unfold World.cells? at h2
      rw [if_pos (Nat.zero_le _)] at h2
      refine ⟨cs, hQ _ _ _ h3, by simpa using mapM_some_length h2, fun j hj => ?_⟩
      exact mapM_some_get h2 j j (by simp [hj])
    refine ⟨len, _, cap, rfl, fun i hi => ?_⟩
    have hspot : a.spot = none := by
      obtain ⟨cs, _, hl, hc⟩ := each 0 (by omega)
      have h1 := hc 0 hm
      rw [List.getElem?_eq_getElem (by omega)] at h1
      simp [Addr.add, World.cell?] at h1
      split at h1
      · by_cases hs : a.spot = none
        · exact hs
        · simp [hs] at h1
      · cases h1
    obtain ⟨g, off, sp⟩ := a
    simp only at hspot
    subst hspot
    have hadd : ∀ k j, (Addr.add (Addr.add ⟨g, off, none⟩ k) j) = ⟨g, off + k + j, none⟩ := fun k j => by
      unfold Addr.add
      by_cases hk : k = 0 <;> by_cases hj : j = 0 <;> simp [hk, hj]
    obtain ⟨cs, hq, hl, hc⟩ := each i hi
    refine ⟨g, off, rfl, ?_, cs, hq, hl, fun j hj => by rw [← hc j hj, hadd]⟩
    have h1 := hc 0 hm
    rw [List.getElem?_eq_getElem (by omega), hadd] at h1
    exact cell_lt h1

/-- A struct's field that is a number. -/
theorem field_int {H : Type} {enc : TypeId × Value → H} {W : World} {fuel : Nat} {e : TypeId} {q : IntKind} {cs : List Value} {o : Nat} {x : DataW H × List MemPlace} (he : Try.prog.underlying e = some (.int q)) (h1 : Try.prog.cellsOf e = 1)
    (h : DataW.trod enc Try.prog W 0 (fun _ => true) true fuel e ((cs.drop o).take (Try.prog.cellsOf e)) = some x) : ∃ a, cs[o]? = some (.int q a) ∧ (Lit.int q a).wf = true := by
  obtain ⟨a, hc, _, hw⟩ := DataW.trod_int he h
  refine ⟨a, ?_, hw⟩
  rw [h1] at hc
  have : ((cs.drop o).take 1)[0]? = some (.int q a) := by rw [hc]; rfl
  rw [List.getElem?_take, if_pos (by omega), List.getElem?_drop, Nat.add_zero] at this
  exact this

/-- Deeds of package presidiolaw17. -/
def Deed17 (cs : List Value) : Prop := ∃ a b c d : Int, cs = [.int .i64 a, .int .i64 b, .int .i64 c, .int .u64 d] ∧ (Lit.int .i64 a).wf = true ∧ (Lit.int .i64 b).wf = true ∧ (Lit.int .i64 c).wf = true ∧ (Lit.int .u64 d).wf = true

set_option maxRecDepth 100000 in
theorem deed17 {H : Type} {enc : TypeId × Value → H} {W : World} (fuel : Nat) (cs : List Value) (x : DataW H × List MemPlace) (h : DataW.trod enc Try.prog W 0 (fun _ => true) true fuel 78 cs = some x) : Deed17 cs := by
  obtain ⟨xs, n, _, _, hl, hx, hf⟩ := DataW.trod_struct Try.underlying78 h
  have hl4 : cs.length = 4 := by rw [hl]; kernel_rfl
  have hx4 : xs.length = 4 := by rw [hx]; rfl
  have one3 : Try.prog.cellsOf 3 = 1 := by kernel_rfl
  have oneU : Try.prog.cellsOf 23 = 1 := by kernel_rfl
  have h0 := hf 0 _ rfl
  have h1 := hf 1 _ rfl
  have h2 := hf 2 _ rfl
  have h3 := hf 3 _ rfl
  rw [List.getElem?_eq_getElem (by omega)] at h0 h1 h2 h3
  obtain ⟨a, ha, wa⟩ := field_int Try.underlying3 one3 h0
  obtain ⟨b, hb, wb⟩ := field_int Try.underlying3 one3 h1
  obtain ⟨c, hc, wc⟩ := field_int Try.underlying3 one3 h2
  obtain ⟨d, hd, wd⟩ := field_int Try.underlying23 oneU h3
  refine ⟨a, b, c, d, ?_, wa, wb, wc, wd⟩
  match cs, hl4 with
  | [v0, v1, v2, v3], _ => simp at ha hb hc hd; simp [ha, hb, hc, hd]

set_option maxRecDepth 100000 in
theorem slice_deeds17 {H : Type} {enc : TypeId × Value → H} {W : World} {b0 : Nat} {r : Reach} {v : Value} {d : DataW H} {ps : List MemPlace} (hval : Value.okWide Try.prog W r b0 72 v) (hd : DataW.Trod enc Try.prog W 0 (fun _ => true) true 72 v d ps) :
    ∃ (n : Nat) (p : Option Addr) (cap : Nat), v = .slice p n cap ∧ ∀ i, i < n → ∃ g off, p = some ⟨g, off, none⟩ ∧ g < W.heap.size ∧ ∃ cs : List Value, Deed17 cs ∧ cs.length = 4 ∧ ∀ j, j < 4 → W.cell? ⟨g, off + i * 4 + j, none⟩ = cs[j]? :=
  slice_recs Try.underlying72 (by kernel_rfl) (by decide) Deed17 deed17 hval hd

end Go.Proofs.Ytlgfopfibopcnaa
