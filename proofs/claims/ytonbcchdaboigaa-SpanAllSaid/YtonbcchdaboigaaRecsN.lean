/-
  Arguments that come in: slices of rows of pages.
-/
import Derived.Test.YtonbcchdaboigaaOpensN
import Derived.Test.YtonbcchdaboigaaSpanW
import Derived.ChangeArms
namespace Go.Proofs.Ytonbcchdaboigaa
open Go Go.ChangeShapes Go.WideShapes Go.ChangeAt Go.RowKit
set_option linter.unusedVariables false

set_option maxRecDepth 100000 in
theorem slice_recs {H : Type} {enc : TypeId × Value → H} {W : World} {b0 : Nat} {r : Reach} {t e : TypeId} {m : Nat} {v : Value} {d : DataW H} {ps : List MemPlace} (ht : Try.prog.underlying t = some (.slice e)) (hsz : Try.prog.cellsOf e = m) (hm : 0 < m) (Q : List Value → Prop)
    (hQ : ∀ fuel cs x, DataW.trod enc Try.prog W 0 (fun _ => true) true fuel e cs = some x → Q cs) (hval : Value.okWide Try.prog W r b0 t v) (hd : DataW.Trod enc Try.prog W 0 (fun _ => true) true t v d ps) :
    ∃ (n : Nat) (p : Option Addr) (cap : Nat), v = .slice p n cap ∧ ∀ i, i < n → ∃ g off, p = some ⟨g, off, none⟩ ∧ g < W.heap.size ∧ ∃ cs : List Value, Q cs ∧ cs.length = m ∧ ∀ j, j < m → W.cell? ⟨g, off + i * m + j, none⟩ = cs[j]? := by
  obtain ⟨fuel, hf⟩ := hd
  obtain ⟨a0, len, cap, rfl⟩ := okWide_slice ht hval
  rcases DataW.trod_slice ht hf with ⟨h0, _⟩ | ⟨a, len', cap', elems, rest, n, _, hcs, _, hb, hl, hmx, hlen, hel, _⟩
  · simp [Value.cells] at h0
    obtain ⟨rfl, rfl, rfl⟩ := h0
    exact ⟨0, none, 0, rfl, fun i hi => by omega⟩
  · simp [Value.cells] at hcs
    obtain ⟨rfl, rfl, rfl⟩ := hcs
    have each : ∀ i, i < len → ∃ cs, Q cs ∧ cs.length = m ∧ ∀ j, j < m → W.cell? ((a.add (i * m)).add j) = cs[j]? := fun i hi => by
      have h1 := hel i hi
      rw [List.getElem?_eq_getElem (by omega), hsz] at h1
      simp only [Option.bind_eq_some_iff] at h1
      obtain ⟨cs, h2, h3⟩ := h1
      unfold World.cells? at h2
      rw [if_pos (Nat.zero_le _)] at h2
      refine ⟨cs, hQ _ _ _ h3, by simpa using mapM_some_length h2, fun j hj => ?_⟩
      exact mapM_some_get h2 j j (by simp [hj])
    refine ⟨len, _, cap, rfl, fun i hi => ?_⟩
    have hspot : a.spot = none := by
      obtain ⟨cs, _, hl, hc⟩ := each 0 (by omega)
      have h1 := hc 0 hm
      rw [List.getElem?_eq_getElem (by omega)] at h1
      simp [Addr.add, World.cell?] at h1
      split at h1
      · by_cases hs : a.spot = none
        · exact hs
        · simp [hs] at h1
      · cases h1
    obtain ⟨g, off, sp⟩ := a
    simp only at hspot
    subst hspot
    have hadd : ∀ k j, (Addr.add (Addr.add ⟨g, off, none⟩ k) j) = ⟨g, off + k + j, none⟩ := fun k j => by
      unfold Addr.add
      by_cases hk : k = 0 <;> by_cases hj : j = 0 <;> simp [hk, hj]
    obtain ⟨cs, hq, hl, hc⟩ := each i hi
    refine ⟨g, off, rfl, ?_, cs, hq, hl, fun j hj => by rw [← hc j hj, hadd]⟩
    have h1 := hc 0 hm
    rw [List.getElem?_eq_getElem (by omega), hadd] at h1
    exact cell_ltO h1

/-- A struct's field that is a number. -/
theorem field_int {H : Type} {enc : TypeId × Value → H} {W : World} {fuel : Nat} {e : TypeId} {q : IntKind} {cs : List Value} {o : Nat} {x : DataW H × List MemPlace} (he : Try.prog.underlying e = some (.int q)) (h1 : Try.prog.cellsOf e = 1)
    (h : DataW.trod enc Try.prog W 0 (fun _ => true) true fuel e ((cs.drop o).take (Try.prog.cellsOf e)) = some x) : ∃ a, cs[o]? = some (.int q a) ∧ (Lit.int q a).wf = true := by
  obtain ⟨a, hc, _, hw⟩ := DataW.trod_int he h
  refine ⟨a, ?_, hw⟩
  rw [h1] at hc
  have : ((cs.drop o).take 1)[0]? = some (.int q a) := by rw [hc]; rfl
  rw [List.getElem?_take, if_pos (by omega), List.getElem?_drop, Nat.add_zero] at this
  exact this

/-- A row of pages. -/
def SpanQ (cs : List Value) : Prop := ∃ a b : Int, cs = [.int .i64 a, .int .i64 b] ∧ (Lit.int .i64 a).wf = true ∧ (Lit.int .i64 b).wf = true

set_option maxRecDepth 100000 in
theorem spanQ {H : Type} {enc : TypeId × Value → H} {W : World} (fuel : Nat) (cs : List Value) (x : DataW H × List MemPlace) (h : DataW.trod enc Try.prog W 0 (fun _ => true) true fuel 64 cs = some x) : SpanQ cs := by
  obtain ⟨xs, n, _, _, hl, hx, hf⟩ := DataW.trod_struct Try.underlying64 h
  have hl2 : cs.length = 2 := by rw [hl]; kernel_rfl
  have hx2 : xs.length = 2 := by rw [hx]; rfl
  have one3 : Try.prog.cellsOf 3 = 1 := by kernel_rfl
  have h0 := hf 0 _ rfl
  have h1 := hf 1 _ rfl
  rw [List.getElem?_eq_getElem (by omega)] at h0 h1
  obtain ⟨a, ha, wa⟩ := field_int Try.underlying3 one3 h0
  obtain ⟨b, hb, wb⟩ := field_int Try.underlying3 one3 h1
  refine ⟨a, b, ?_, wa, wb⟩
  match cs, hl2 with
  | [v0, v1], _ => simp at ha hb; simp [ha, hb]

theorem list_of {α : Type} (d : α) : ∀ (n : Nat) (Q : Nat → α → Prop), (∀ i, i < n → ∃ x, Q i x) → ∃ l : List α, l.length = n ∧ ∀ i, i < n → Q i (l.getD i d)
  | 0, Q, _ => ⟨[], rfl, fun i hi => by omega⟩
  | n + 1, Q, h => by
    obtain ⟨l, hl, hq⟩ := list_of d n Q (fun i hi => h i (by omega))
    obtain ⟨x, hx⟩ := h n (by omega)
    refine ⟨l ++ [x], by simp [hl], fun i hi => ?_⟩
    by_cases e : i = n
    · subst e
      rw [List.getD_eq_getElem?_getD, List.getElem?_append_right (by omega), hl, Nat.sub_self]
      exact hx
    · rw [List.getD_eq_getElem?_getD, List.getElem?_append_left (by omega), ← List.getD_eq_getElem?_getD]
      exact hq i (by omega)

set_option maxRecDepth 100000 in
theorem slice_spans {H : Type} {enc : TypeId × Value → H} {W : World} {b0 : Nat} {r : Reach} {v : Value} {d : DataW H} {ps : List MemPlace} (hval : Value.okWide Try.prog W r b0 22 v) (hd : DataW.Trod enc Try.prog W 0 (fun _ => true) true 22 v d ps) :
    ∃ (l : List (Int × Int)) (p : Option Addr) (g off cap : Nat), v = .slice p l.length cap ∧ SpansIn W p g off l := by
  obtain ⟨n, p, cap, rfl, h⟩ := slice_recs (m := 2) Try.underlying22 (by kernel_rfl) (by decide) SpanQ spanQ hval hd
  rcases Nat.eq_zero_or_pos n with rfl | h0
  · exact ⟨[], p, 0, 0, cap, rfl, fun h0 => by simp at h0⟩
  · obtain ⟨g, off, rfl, hg, _⟩ := h 0 h0
    obtain ⟨l, hl, hq⟩ := list_of ((0 : Int), (0 : Int)) n (fun i x => W.cell? ⟨g, off + i * 2, none⟩ = some (.int .i64 x.1) ∧ W.cell? ⟨g, off + i * 2 + 1, none⟩ = some (.int .i64 x.2) ∧ (Lit.int .i64 x.1).wf = true ∧ (Lit.int .i64 x.2).wf = true) (fun i hi => by
      obtain ⟨g', off', he, _, cs, ⟨a, b, rfl, wa, wb⟩, _, hc⟩ := h i hi
      cases he
      exact ⟨(a, b), hc 0 (by omega), hc 1 (by omega), wa, wb⟩)
    subst hl
    exact ⟨l, _, g, off, cap, rfl, fun _ => ⟨rfl, hq⟩⟩

end Go.Proofs.Ytonbcchdaboigaa
