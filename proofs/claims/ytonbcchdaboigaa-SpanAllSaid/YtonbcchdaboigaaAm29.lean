/-
  Contracts that the library's proved summaries give: a map's keys, sorted; a new row of cells.
-/
import Derived.Test.YtonbcchdaboigaaAm28
import Derived.Lib.SlKeysI
namespace Go.Am
open Go Go.RowKit
open Go.WideElems (Fit rd rg pl rd_key rd_val rg_of)
set_option linter.unusedVariables false

/-! ### Insertion -/
def ins (a : Int) : List Int → List Int
  | [] => [a]
  | b :: r => bif decide (a ≤ b) then a :: b :: r else b :: ins a r

def isort : List Int → List Int
  | [] => []
  | a :: r => ins a (isort r)

theorem ins_perm (a : Int) : ∀ l, (ins a l).Perm (a :: l)
  | [] => List.Perm.refl _
  | b :: r => by
    unfold ins
    cases hq : decide (a ≤ b) with
    | true => exact List.Perm.refl _
    | false => exact ((ins_perm a r).cons b).trans (List.Perm.swap a b r)

theorem isort_perm : ∀ l, (isort l).Perm l
  | [] => List.Perm.refl _
  | a :: r => (ins_perm a _).trans ((isort_perm r).cons a)

theorem ins_sorted (a : Int) : ∀ l : List Int, l.Pairwise (fun x y => x ≤ y) → (ins a l).Pairwise (fun x y => x ≤ y)
  | [], _ => by simp [ins]
  | b :: r, h => by
    unfold ins
    obtain ⟨h1, h2⟩ := List.pairwise_cons.1 h
    cases hq : decide (a ≤ b) with
    | true =>
      have hab := of_decide_eq_true hq
      refine List.pairwise_cons.2 ⟨fun x hx => ?_, h⟩
      rcases List.mem_cons.1 hx with rfl | hx
      · exact hab
      · exact Int.le_trans hab (h1 x hx)
    | false =>
      have hab := of_decide_eq_false hq
      refine List.pairwise_cons.2 ⟨fun x hx => ?_, ins_sorted a r h2⟩
      rcases List.mem_cons.1 ((ins_perm a r).mem_iff.1 hx) with rfl | hx
      · omega
      · exact h1 x hx

theorem isort_sorted : ∀ l : List Int, (isort l).Pairwise (fun x y => x ≤ y)
  | [] => List.Pairwise.nil
  | a :: r => ins_sorted a _ (isort_sorted r)

theorem isort_eq {l l' : List Int} (h : l.Perm l') : l.mergeSort leI = isort l' := by
  have tr : ∀ a b c : Int, leI a b = true → leI b c = true → leI a c = true := fun a b c h1 h2 => by simp only [leI, decide_eq_true_eq] at *; exact Int.le_trans h1 h2
  have to : ∀ a b : Int, (leI a b || leI b a) = true := fun a b => by simp only [leI, Bool.or_eq_true, decide_eq_true_eq]; exact Int.le_total a b
  refine List.Perm.eq_of_pairwise (le := fun a b => leI a b = true) (fun a b _ _ h1 h2 => ?_) (List.pairwise_mergeSort tr to l) ((isort_sorted l').imp fun h => decide_eq_true h) (((List.mergeSort_perm l leI).trans h).trans (isort_perm l').symm)
  simp only [leI, decide_eq_true_eq] at h1 h2
  exact Int.le_antisymm h1 h2

/-! ### Maps whose keys are integers -/
def keyI (q : IntKind) (e : AEntry) : Option Int := match e.key with
  | .int k a => bif decide (k = q) && (Lit.int q a).wf then some a else none
  | _ => none

def keysI (q : IntKind) : List AEntry → Option (List Int)
  | [] => some []
  | e :: r => match keyI q e, keysI q r with
    | some a, some l => some (a :: l)
    | _, _ => none

def apartN : List Nat → Bool
  | [] => true
  | a :: r => r.all (fun b => !Nat.beq a b) && apartN r

def apartI : List Int → Bool
  | [] => true
  | a :: r => r.all (fun b => !decide (a = b)) && apartI r

theorem apartN_ok : ∀ {l : List Nat}, apartN l = true → l.Nodup
  | [], _ => List.nodup_nil
  | a :: r, h => by
    simp only [apartN, Bool.and_eq_true] at h
    refine List.nodup_cons.2 ⟨fun ha => ?_, apartN_ok h.2⟩
    have := List.all_eq_true.1 h.1 a ha
    simp [Nat.beq_refl] at this

theorem apartI_ok : ∀ {l : List Int}, apartI l = true → l.Nodup
  | [], _ => List.nodup_nil
  | a :: r, h => by
    simp only [apartI, Bool.and_eq_true] at h
    refine List.nodup_cons.2 ⟨fun ha => ?_, apartI_ok h.2⟩
    have := List.all_eq_true.1 h.1 a ha
    simp at this

theorem keyI_ok {q : IntKind} {e : AEntry} {a : Int} (h : keyI q e = some a) : e.key = .int q a ∧ (Lit.int q a).wf = true := by
  unfold keyI at h
  split at h
  · rename_i k b hk
    cases hq : (decide (k = q) && (Lit.int q b).wf) with
    | false => rw [hq] at h; cases h
    | true =>
      rw [hq] at h
      cases h
      simp only [Bool.and_eq_true] at hq
      have := of_decide_eq_true hq.1
      subst this
      exact ⟨hk, hq.2⟩
  · cases h

section
variable {σ : Syms} {N0 : Nat} {w0 : World} {P : Program} {ρ : Ren} {s s' : AState} {w w' : World}

theorem keysI_ok {q : IntKind} : ∀ {es : List AEntry} {ms : List MapEntry} {l : List Int}, keysI q es = some l → ERels σ ρ es ms → ms.map (·.key) = l.map (Value.int q) ∧ (∀ a ∈ l, (Lit.int q a).wf = true) ∧ ms.map (·.born) = es.map (·.born)
  | [], ms, l, h, hr => by
    simp only [ERels] at hr
    subst hr
    cases h
    exact ⟨rfl, fun a ha => absurd ha (List.not_mem_nil), rfl⟩
  | e :: r, ms, l, h, ⟨m, ns, e1, h2, h3, h4, h5⟩ => by
    subst e1
    unfold keysI at h
    split at h
    · rename_i a l' ha hl
      cases h
      obtain ⟨k1, k2⟩ := keyI_ok ha
      obtain ⟨i1, i2, i3⟩ := keysI_ok hl h5
      refine ⟨?_, fun b hb => ?_, ?_⟩
      · simp only [List.map_cons, i1, h2, k1]
      · rcases List.mem_cons.1 hb with rfl | hb
        · exact k2
        · exact i2 b hb
      · simp only [List.map_cons, i3, h3]
    · cases h

/-- A map with integers for keys, whatever it holds. -/
def fitK (q : IntKind) (es : List AEntry) (c : Nat) : Option (List Int) := match keysI q es with
  | some l => bif Nat.ble es.length 100000 && (es.all (fun e => Nat.blt e.born c) && (apartN (es.map (·.born)) && apartI l)) then some l else none
  | none => none

abbrev anyR {H : Type} : Value → Option (DataW H × List MemPlace) := fun _ => some (.nil, [])

theorem fitK_ok {H : Type} {es : List AEntry} {c : Nat} {l : List Int} {k : TypeId} (hk : P.underlying k = some (.int .i64)) (h : fitK .i64 es c = some l) {b : Nat} {ms : Array MapEntry} (hb : w.heap[b]? = some (.map ms c)) (hr : ERels σ ρ es ms.toList) :
    ∃ D0 : DataW H, w.ownsMap P k anyR b es.length D0 ∧ l.Perm (intKeys D0) ∧ Maps.size D0 = es.length ∧ es.length ≤ 100000 := by
  unfold fitK at h
  split at h
  · rename_i l' hl
    cases hq : (Nat.ble es.length 100000 && (es.all (fun e => Nat.blt e.born c) && (apartN (es.map (·.born)) && apartI l'))) with
    | false => rw [hq] at h; cases h
    | true =>
      rw [hq, cond_true] at h
      cases h
      simp only [Bool.and_eq_true] at hq
      obtain ⟨q1, q2, q3, q4⟩ := hq
      have q1 := Nat.le_of_ble_eq_true q1
      obtain ⟨i1, i2, i3⟩ := keysI_ok hl hr
      have hlen := hr.length
      have hrd : ∀ x ∈ ms.toList, ∃ a, x.key = .int .i64 a ∧ rd (H := H) P k anyR x = some (.int .i64 a, .nil) := fun x hx => by
        have : x.key ∈ ms.toList.map (·.key) := List.mem_map_of_mem hx
        rw [i1] at this
        obtain ⟨a, ha, hxa⟩ := List.mem_map.1 this
        refine ⟨a, hxa.symm, ?_⟩
        have hkey : keyOf P k x.key = some (.int .i64 a) := by
          rw [← hxa]
          simp [keyOf, hk, mapKey, i2 a ha]
        simp [rd, hkey]
      have F : Fit (H := H) P k anyR ms c := by
        refine ⟨by have : maxLen = 9223372036854775807 := rfl; simp only [Array.length_toList] at hlen; omega, ⟨fun x hx => ?_, ?_, ?_⟩, fun x hx => ?_⟩
        · have : x.born ∈ ms.toList.map (·.born) := List.mem_map_of_mem hx
          rw [i3] at this
          obtain ⟨e, he, hxe⟩ := List.mem_map.1 this
          rw [← hxe]
          exact Nat.le_of_ble_eq_true (List.all_eq_true.1 q2 e he)
        · rw [i3]; exact apartN_ok q3
        · rw [i1]
          exact List.pairwise_map.2 ((apartI_ok q4).imp fun hne e => hne (by simpa using e))
        · obtain ⟨a, _, h2⟩ := hrd x hx
          exact ⟨_, h2⟩
      refine ⟨.map ((ms.toList.map (rg P k anyR)).foldr DataW.insert []), ⟨ms, c, hb, F, by simp only [Array.length_toList] at hlen; omega, rfl⟩, ?_, ?_, q1⟩
      · have hp := (Go.WideShapes.sorted_perm (ms.toList.map (rg (H := H) P k anyR))).map (fun p => intOf p.1)
        refine List.Perm.trans ?_ hp.symm
        have : (ms.toList.map (rg (H := H) P k anyR)).map (fun p => intOf p.1) = l := by
          rw [List.map_map]
          have h1 : ∀ x ∈ ms.toList, (fun p => intOf p.1) (rg (H := H) P k anyR x) = (match x.key with | .int _ a => a | _ => 0) := fun x hx => by
            obtain ⟨a, h1, h2⟩ := hrd x hx
            rw [rg_of h2, h1]
            rfl
          have h2 : ms.toList.map ((fun p => intOf p.1) ∘ rg (H := H) P k anyR) = ms.toList.map ((fun v => (match v with | .int _ a => a | _ => 0 : Int)) ∘ (fun x : MapEntry => x.key)) := List.map_congr_left fun x hx => h1 x hx
          rw [h2, ← List.map_map, i1, List.map_map]
          simp [Function.comp_def]
        rw [this]
      · show (((ms.toList.map (rg (H := H) P k anyR)).foldr DataW.insert []).length) = es.length
        rw [Go.length_sorted]
        simp only [List.length_map]
        exact hlen
  · cases h

/-- A new row of integers that a call hands back. -/
theorem Post.newRow {e : TypeId} {q : IntKind} {g cap : Nat} {cur : Array Value} {l : List Int} (h : WRel σ N0 w0 ρ s w) (hb : Below w.heap.size w w') (ha : s.alloc (.cells (l.map fun a => .lit (.int q a)) true) = .ok s') (hf : Fresh ρ s.next s'.next)
    (hg : w.heap.size ≤ g) (hcur : w'.heap[g]? = some (.cells cur e (0, 0))) (hn : l.length ≤ cap) (hsz : cur.size = cap) (ht : cur.toList.take l.length = l.map (Value.int q)) :
    ∃ ρ', VRel σ ρ' (.slice s.next 0 l.length (.grown 1)) (.slice (some ⟨g, 0, none⟩) l.length cap) ∧ Post σ N0 w0 ρ s w ρ' s' w' := by
  have hlt : g < w'.heap.size := (Array.getElem?_eq_some_iff.1 hcur).1
  have hcell : ∀ i, w'.cell? ⟨g, i, none⟩ = cur[i]? := fun i => by simp [World.cell?, hcur]
  have hfr : ∀ i, w'.frozen? ⟨g, i, none⟩ = false := fun i => by simp [World.frozen?, hcur]
  obtain ⟨ρ', h1, h2⟩ := Post.newAt (L := ⟨g, 0, cap⟩) h hb ha hf hg hlt (fun ρ' _ => ⟨fun j v hj => by
      rw [List.getElem?_map] at hj
      obtain ⟨a, hja, rfl⟩ := Option.map_eq_some_iff.1 hj
      refine ⟨.int q a, ?_, rfl, rfl⟩
      show w'.cell? ⟨g, 0 + j, none⟩ = _
      rw [hcell, Nat.zero_add, ← Array.getElem?_toList]
      have hjl : j < l.length := (List.getElem?_eq_some_iff.1 hja).1
      have h3 : (cur.toList.take l.length)[j]? = (l.map (Value.int q))[j]? := by rw [ht]
      rw [List.getElem?_take_of_lt hjl, List.getElem?_map, hja] at h3
      exact h3, fun _ j _ => hfr _, fun _ => ⟨rfl, by simpa using hn, fun i hi => ⟨by
        show (w'.cell? ⟨g, i, none⟩).isSome = true
        rw [hcell]
        have h4 : i < cur.size := Nat.lt_of_lt_of_le hi (Nat.le_of_eq hsz.symm)
        simp [h4], hfr _⟩⟩⟩)
  exact ⟨ρ', ⟨⟨g, 0, cap⟩, cap, h1, rfl, hn, rfl, by show 0 + cap * 1 = cap; omega⟩, h2⟩

end
end Go.Am
