/-
  Maps from integers to integers, for the library's proved summaries; a new row of which no more is known than how long it is.
-/
import Derived.Test.YtlgfopfibopcnaaAm30
namespace Go.Am
open Go Go.RowKit
open Go.WideElems (Fit rd rg pl rd_key rd_val rg_of)
set_option linter.unusedVariables false

/-- Each value is a number of the kind. -/
def valsI (q : IntKind) (es : List AEntry) : Bool := es.all fun e => match e.val with
  | .lit (.int k a) => decide (k = q) && (Lit.int q a).wf
  | _ => false

section
variable {σ : Syms} {N0 : Nat} {w0 : World} {P : Program} {ρ : Ren} {s s' : AState} {w w' : World}

def fitQ (q : IntKind) (es : List AEntry) (c : Nat) : Option (List Int) := match keysI q es with
  | some l => bif Nat.ble es.length 100000 && (es.all (fun e => Nat.blt e.born c) && (apartN (es.map (·.born)) && apartI l)) then some l else none
  | none => none

theorem fitQ_ok {H : Type} {q : IntKind} {es : List AEntry} {c : Nat} {l : List Int} {k : TypeId} (R : Value → Option (DataW H × List MemPlace)) (hk : P.underlying k = some (.int q)) (h : fitQ q es c = some l) {b : Nat} {ms : Array MapEntry} (hb : w.heap[b]? = some (.map ms c)) (hr : ERels σ ρ es ms.toList)
    (hR : ∀ x ∈ ms.toList, ∃ z, R x.val = some z) : ∃ D0 : DataW H, w.ownsMap P k R b es.length D0 ∧ l.Perm (intKeys D0) ∧ Maps.size D0 = es.length ∧ es.length ≤ 100000 := by
  unfold fitQ at h
  split at h
  · rename_i l' hl
    cases hq : (Nat.ble es.length 100000 && (es.all (fun e => Nat.blt e.born c) && (apartN (es.map (·.born)) && apartI l'))) with
    | false => rw [hq] at h; cases h
    | true =>
      rw [hq, cond_true] at h
      cases h
      simp only [Bool.and_eq_true] at hq
      obtain ⟨q1, q2, q3, q4⟩ := hq
      have q1 := Nat.le_of_ble_eq_true q1
      obtain ⟨i1, i2, i3⟩ := keysI_ok hl hr
      have hlen := hr.length
      have hrd : ∀ x ∈ ms.toList, ∃ a z, x.key = .int q a ∧ rd (H := H) P k R x = some (.int q a, z) := fun x hx => by
        have : x.key ∈ ms.toList.map (·.key) := List.mem_map_of_mem hx
        rw [i1] at this
        obtain ⟨a, ha, hxa⟩ := List.mem_map.1 this
        obtain ⟨z, hz⟩ := hR x hx
        refine ⟨a, z.1, hxa.symm, ?_⟩
        have hkey : keyOf P k x.key = some (.int q a) := by
          rw [← hxa]
          simp [keyOf, hk, mapKey, i2 a ha]
        simp [rd, hkey, hz]
      have F : Fit (H := H) P k R ms c := by
        refine ⟨by have : maxLen = 9223372036854775807 := rfl; simp only [Array.length_toList] at hlen; omega, ⟨fun x hx => ?_, ?_, ?_⟩, fun x hx => ?_⟩
        · have : x.born ∈ ms.toList.map (·.born) := List.mem_map_of_mem hx
          rw [i3] at this
          obtain ⟨e, he, hxe⟩ := List.mem_map.1 this
          rw [← hxe]
          exact Nat.le_of_ble_eq_true (List.all_eq_true.1 q2 e he)
        · rw [i3]; exact apartN_ok q3
        · rw [i1]
          exact List.pairwise_map.2 ((apartI_ok q4).imp fun hne e => hne (by simpa using e))
        · obtain ⟨a, z, _, h2⟩ := hrd x hx
          exact ⟨_, h2⟩
      refine ⟨.map ((ms.toList.map (rg P k R)).foldr DataW.insert []), ⟨ms, c, hb, F, by simp only [Array.length_toList] at hlen; omega, rfl⟩, ?_, ?_, q1⟩
      · have hp := (Go.WideShapes.sorted_perm (ms.toList.map (rg (H := H) P k R))).map (fun p => intOf p.1)
        refine List.Perm.trans ?_ hp.symm
        have : (ms.toList.map (rg (H := H) P k R)).map (fun p => intOf p.1) = l := by
          rw [List.map_map]
          have h1 : ∀ x ∈ ms.toList, (fun p => intOf p.1) (rg (H := H) P k R x) = (match x.key with | .int _ a => a | _ => 0) := fun x hx => by
            obtain ⟨a, z, h1, h2⟩ := hrd x hx
            rw [rg_of h2, h1]
            rfl
          have h2 : ms.toList.map ((fun p => intOf p.1) ∘ rg (H := H) P k R) = ms.toList.map ((fun v => (match v with | .int _ a => a | _ => 0 : Int)) ∘ (fun x : MapEntry => x.key)) := List.map_congr_left fun x hx => h1 x hx
          rw [h2, ← List.map_map, i1, List.map_map]
          simp [Function.comp_def]
        rw [this]
      · show (((ms.toList.map (rg (H := H) P k R)).foldr DataW.insert []).length) = es.length
        rw [Go.length_sorted]
        simp only [List.length_map]
        exact hlen
  · cases h

theorem valsI_ok {H : Type} {q : IntKind} {es : List AEntry} {ms : List MapEntry} {e : TypeId} (he : P.underlying e = some (.int q)) (h : valsI q es = true) (hr : ERels σ ρ es ms) : ∀ x ∈ ms, ∃ z, plainElem (H := H) P e x.val = some z := by
  intro x hx
  obtain ⟨a, ha, _, _, hv⟩ := hr.mem x hx
  have := List.all_eq_true.1 h a ha
  split at this
  · rename_i k n hval
    simp only [Bool.and_eq_true] at this
    have hkq := of_decide_eq_true this.1
    rw [hval] at hv
    obtain ⟨hv, _⟩ := hv
    rw [hv, hkq]
    exact ⟨_, plainElem_int he this.2⟩
  · cases this

/-- A new row of which no more is known. -/
theorem Post.newDim {g cap n k : Nat} (h : WRel σ N0 w0 ρ s w) (hb : Below w.heap.size w w') (ha : s.alloc (.cells [] false) = .ok s') (hf : Fresh ρ s.next s'.next)
    (hg : w.heap.size ≤ g) (hlt : g < w'.heap.size) (hn : n ≤ cap) :
    ∃ ρ', VRel σ ρ' (.slice s.next 0 n (.grown k)) (.slice (some ⟨g, 0, none⟩) n cap) ∧ Post σ N0 w0 ρ s w ρ' s' w' := by
  obtain ⟨ρ', h1, h2⟩ := Post.newAt (L := ⟨g, 0, cap * k⟩) h hb ha hf hg hlt (fun ρ' _ => ⟨fun j v hj => by simp at hj, fun _ j hj => absurd hj (Nat.not_lt_zero _), fun h => by cases h⟩)
  exact ⟨ρ', ⟨⟨g, 0, cap * k⟩, cap, h1, rfl, hn, rfl, by show 0 + cap * k = cap * k; omega⟩, h2⟩

end
end Go.Am
