/-
  Regions that draw their order, by a relation that each operation keeps; maps whose keys are pairs of numbers.
-/
import Derived.Test.YtonbcchdaboigaaAm20
import Derived.Laws.Tables
namespace Go.Am
open Go Go.RowKit
set_option linter.unusedVariables false

section
variable {P : Program} {ops : Array Oper}

theorem ready_nil (he : edgesBack ops.toList = true) {listed : Array Bool} (hsz : listed.size = ops.size) (hr : Region.ready .any ops listed = []) : ∀ j, j < ops.size → Lst listed j := by
  intro j
  induction j using Nat.strongRecOn with
  | _ j ih =>
    intro hj
    cases hq : listed.getD j false with
    | true => exact hq
    | false =>
      exfalso
      have hmem : j ∈ Region.ready .any ops listed := by
        unfold Region.ready
        rw [List.mem_filter]
        refine ⟨by simp [hj], ?_⟩
        have h1 : listed.getD j true = false := by
          have hjl : j < listed.size := by omega
          simpa [Array.getD, hjl] using hq
        rw [h1]
        simp only [Bool.not_false, Bool.true_and]
        have ho : ops[j]? = some ops[j] := by simp [hj]
        rw [ho]
        simp only [Option.map_some, Option.getD_some]
        rw [Array.all_eq_true_iff_forall_mem]
        intro e he'
        cases hb : Region.binds .any e with
        | false => rfl
        | true =>
          have hej : e.on < j := by
            have h2 := List.all_eq_true.1 he (ops[j], j) (by rw [List.mem_zipIdx_iff_getElem?]; simp)
            have h3 := List.all_eq_true.1 h2 e (by simp [he'])
            simp only [hb, Bool.not_true, Bool.false_or] at h3
            exact Nat.le_of_ble_eq_true h3
          have := ih e.on hej (by omega)
          unfold Lst at this
          rw [this]
          rfl
      rw [hr] at hmem
      simp at hmem

theorem wpAny_inv (he : edgesBack ops.toList = true) {Q : Exit → Act → World → Prop} (J : Array Bool → Act → World → Prop)
    (step : ∀ listed act w j o, listed.size = ops.size → J listed act w → ops[j]? = some o → ¬ Lst listed j → (∀ e ∈ o.after.toList, Region.binds .any e = true → Lst listed e.on) →
      wpOp P ops Q j (fun a w => J (listed.setIfInBounds j true) a w) act w)
    (fin : ∀ listed act w, J listed act w → (∀ j, j < ops.size → Lst listed j) → Q .normal act w) :
    ∀ (fuel : Nat) (listed : Array Bool) (act : Act) (w : World), cnt ops.size listed ≤ fuel → listed.size = ops.size → J listed act w → wpAny P .any ops Q fuel listed act w := by
  intro fuel
  induction fuel with
  | zero =>
    intro listed act w hcnt hsz hI
    have hr : Region.ready .any ops listed = [] := by
      cases hq : Region.ready .any ops listed with
      | nil => rfl
      | cons j r =>
        exfalso
        obtain ⟨o, ho, hl, _⟩ := mem_ready (listed := listed) (j := j) (ops := ops) (by rw [hq]; simp) hsz
        have hj : j < ops.size := (Array.getElem?_eq_some_iff.1 ho).1
        have : j ∈ (List.range ops.size).filter fun i => listed.getD i true == false := by
          rw [List.mem_filter]
          refine ⟨by simp [hj], ?_⟩
          have hjl : j < listed.size := by rw [hsz]; exact hj
          unfold Lst at hl
          simp [Array.getD, hjl] at hl ⊢
          exact hl
        unfold cnt at hcnt
        have h0 := List.length_eq_zero_iff.1 (Nat.le_zero.1 hcnt)
        rw [h0] at this
        simp at this
    exact ⟨hr, fin listed act w hI (ready_nil he hsz hr)⟩
  | succ fuel ih =>
    intro listed act w hcnt hsz hI
    refine ⟨fun hr => fin listed act w hI (ready_nil he hsz hr), fun j hj => ?_⟩
    obtain ⟨o, ho, hl, hall⟩ := mem_ready hj hsz
    have hjn : j < ops.size := (Array.getElem?_eq_some_iff.1 ho).1
    have hjl : j < listed.size := by rw [hsz]; exact hjn
    refine wpOp_mono (fun act' w' hI' => ih _ _ _ ?_ (by simp [hsz]) hI') (step listed act w j o hsz hI ho hl hall)
    have : cnt ops.size (listed.setIfInBounds j true) < cnt ops.size listed := by
      unfold cnt
      refine filter_lt _ (fun x hx hq => ?_) ⟨j, by simp [hjn], ?_, ?_⟩
      · by_cases hxj : j = x
        · subst hxj; simp [Array.getD, hjl] at hq
        · rwa [getD_set_ne true hxj] at hq
      · unfold Lst at hl
        simp [Array.getD, hjl] at hl ⊢
        exact hl
      · simp [Array.getD, hjl]
    omega

theorem region_inv (hm : P.follows .mixedOrders = true) (he : edgesBack ops.toList = true) {Q : Exit → Act → World → Prop} (J : Array Bool → Act → World → Prop) {act : Act} {w : World} (h0 : J (Array.replicate ops.size false) act { w with drawn := w.drawn + 1 })
    (step : ∀ listed act w j o, listed.size = ops.size → J listed act w → ops[j]? = some o → ¬ Lst listed j → (∀ e ∈ o.after.toList, Region.binds .any e = true → Lst listed e.on) →
      wpOp P ops Q j (fun a w => J (listed.setIfInBounds j true) a w) act w)
    (fin : ∀ listed act w, J listed act w → (∀ j, j < ops.size → Lst listed j) → Q .normal act w) {id : Nat} : (Code.region id ops true).wp P Q act w :=
  wp_region_any hm (wpAny_inv he J step fin ops.size _ act _ (Nat.le_trans (List.length_filter_le _ _) (by simp)) (by simp) h0)

end

/-! ### Pairs of numbers as keys -/
section
variable {P : Program} {tA tM tI : TypeId}

structure Pairs (P : Program) (tA tM tI : TypeId) : Prop where
  arr : P.underlying tA = some (.array 2 tI)
  int : P.underlying tI = some (.int .i64)
  map : P.underlying tM = some (.map tA tI)
  size : (P.info? tI).map (·.size) = some 1
  zero : ∀ w, (zeroValue tI).run P w = .ok (.int .i64 0) w
  built : ∀ a b : Int, P.built tA [(0, .int .i64 a), (1, .int .i64 b)] = some #[.int .i64 a, .int .i64 b]

def pairV (a b : Int) : Value := .agg #[.int .i64 a, .int .i64 b]

structure Ent where
  a : Int
  b : Int
  v : Int
  born : Nat

def Ent.to (e : Ent) : MapEntry := { key := pairV e.a e.b, val := .int .i64 e.v, born := e.born }

theorem Pairs.part (h : Pairs P tA tM tI) (a b : Int) (w : World) : (part tI #[.int .i64 a, .int .i64 b] (0 * 1)).run P w = .ok (.int .i64 a) w ∧ (part tI #[.int .i64 a, .int .i64 b] (1 * 1)).run P w = .ok (.int .i64 b) w := by
  have hagg : (isAgg tI).run P w = .ok false w := by
    unfold isAgg; rw [Sem.run_bind, run_underlying h.int]; rfl
  exact ⟨by simp [Go.part, hagg], by simp [Go.part, hagg]⟩

theorem Pairs.sizeOf (h : Pairs P tA tM tI) (w : World) : (sizeOf tI).run P w = .ok 1 w := by
  obtain ⟨i0, hi0, hi1⟩ := Option.map_eq_some_iff.1 h.size
  simp [Go.sizeOf, typeInfo, hi0, hi1]

theorem Pairs.equal (h : Pairs P tA tM tI) (a b c d : Int) (w : World) : (Op.equal tA (pairV a b) (pairV c d)).run P w = .ok (a == c && b == d) w := by
  show (Op.equalIn (9998 + 2) tA (.agg #[.int .i64 a, .int .i64 b]) (.agg #[.int .i64 c, .int .i64 d])).run P w = _
  unfold Op.equalIn
  rw [Sem.run_bind, run_underlying h.arr, Result.andThen_ok]
  simp only [Sem.run_bind, h.sizeOf, Result.andThen_ok, Std.Legacy.Range.forIn_eq_forIn_range']
  have hr : List.range' 0 ((2 - 0 + 1 - 1) / 1) 1 = [0, 1] := rfl
  simp only [Std.Legacy.Range.size] at *
  rw [hr]
  simp only [List.forIn_cons, List.forIn_nil, Sem.run_bind, (h.part _ _ _).1, Result.andThen_ok, run_equalIn_int w 9998 tI .i64 .i64 _ _ h.int]
  cases hq : (a == c) with
  | false => simp
  | true =>
    simp only [Bool.true_and, Bool.not_true, Bool.false_eq_true, if_false, Sem.run_pure, Sem.run_bind, Result.andThen_ok, (h.part _ _ _).2, run_equalIn_int w 9998 tI .i64 .i64 _ _ h.int]
    cases hq2 : (b == d) <;> simp

theorem Pairs.check (h : Pairs P tA tM tI) (e : Bool) (a b : Int) (w : World) : (Instr.checkKey e 10000 tA (pairV a b)).run P w = .ok () w := by
  show (Instr.checkKey e (9998 + 2) tA (.agg #[.int .i64 a, .int .i64 b])).run P w = _
  unfold Instr.checkKey
  rw [Sem.run_bind, run_underlying h.arr, Result.andThen_ok]
  simp only [Std.Legacy.Range.forIn_eq_forIn_range', Std.Legacy.Range.size]
  have hr : List.range' 0 ((2 - 0 + 1 - 1) / 1) 1 = [0, 1] := rfl
  rw [hr]
  simp only [List.forIn_cons, List.forIn_nil, Sem.run_bind, Sem.run_pure, h.sizeOf, (h.part _ _ _).1, (h.part _ _ _).2, Result.andThen_ok, checkKey_int e 9998 h.int]

def look (a b : Int) : List Ent → Option Int
  | [] => none
  | e :: r => if a == e.a && b == e.b then some e.v else look a b r

def place (a b : Int) : List Ent → Nat → Option (Nat × Value)
  | [], _ => none
  | e :: r, i => if a == e.a && b == e.b then some (i, .int .i64 e.v) else place a b r (i + 1)

theorem place_look (a b : Int) : ∀ (E : List Ent) (i : Nat), (place a b E i).map (·.2) = (look a b E).map (Value.int .i64 ·)
  | [], i => rfl
  | e :: r, i => by
    simp only [place, look]
    cases hq : (a == e.a && b == e.b) with
    | true => rfl
    | false => exact place_look a b r (i + 1)

theorem Pairs.asking (h : Pairs P tA tM tI) (a b : Int) (w : World) : ∀ (E : List Ent) (i : Nat), (Instr.findAsking tA (pairV a b) (E.map Ent.to) i).run P w = .ok (place a b E i) w
  | [], i => by simp [Instr.findAsking, place]
  | e :: r, i => by
    simp only [List.map_cons, Instr.findAsking, Sem.run_bind]
    have : (Op.equal tA (pairV a b) e.to.key).run P w = .ok (a == e.a && b == e.b) w := h.equal a b e.a e.b w
    rw [this, Result.andThen_ok]
    simp only [place]
    cases hq : (a == e.a && b == e.b) with
    | true => simp [Ent.to]
    | false => simpa using h.asking a b w r (i + 1)

theorem Pairs.find (h : Pairs P tA tM tI) (a b : Int) (w : World) (E : List Ent) : (Instr.findKey tA (pairV a b) (E.map Ent.to)).run P w = .ok (place a b E 0) w := by
  unfold Instr.findKey
  rw [Sem.run_bind, run_underlying h.arr, Result.andThen_ok]
  cases E with
  | nil => simp [Instr.findNow, place]
  | cons e r =>
    have : Instr.findNow (.array 2 tI) (pairV a b) ((e :: r).map Ent.to) 0 = none := by
      simp [Instr.findNow, Instr.sameNow]
    rw [this]
    exact h.asking a b w (e :: r) 0

theorem Pairs.lookup (h : Pairs P tA tM tI) (a b : Int) {w : World} {r c : Nat} {E : List Ent} (hw : w.heap[r]? = some (.map (E.map Ent.to).toArray c)) :
    (Instr.lookup tM (.map (some r)) (pairV a b) true).run P w = .ok (.tuple #[.int .i64 ((look a b E).getD 0), .bool (look a b E).isSome]) w := by
  have hpl := place_look a b E 0
  unfold Instr.lookup
  rw [Sem.run_bind, run_underlying h.map, Result.andThen_ok]
  simp only [Sem.run_bind, Sem.run_pure, Result.andThen_ok, run_getMap hw, h.check]
  rw [h.find]
  simp only [Result.andThen_ok]
  cases hq : place a b E 0 with
  | none =>
    rw [hq] at hpl
    cases hl : look a b E with
    | some v => rw [hl] at hpl; cases hpl
    | none => simp [h.zero]
  | some p =>
    rw [hq] at hpl
    cases hl : look a b E with
    | none => rw [hl] at hpl; cases hpl
    | some v =>
      rw [hl] at hpl
      simp at hpl
      simp [hpl]

theorem Pairs.update (h : Pairs P tA tM tI) (a b v : Int) {w : World} {r c : Nat} {E : List Ent} (hw : w.heap[r]? = some (.map (E.map Ent.to).toArray c)) (hn : look a b E = none) :
    (Instr.mapUpdate tM (.map (some r)) (pairV a b) (.int .i64 v)).run P w = .ok () (World.setObj w r (.map ((E ++ [Ent.mk a b v c]).map Ent.to).toArray (c + 1))) := by
  have hpl := place_look a b E 0
  unfold Instr.mapUpdate
  rw [Sem.run_bind, run_underlying h.map, Result.andThen_ok]
  simp only [Sem.run_bind, Result.andThen_ok, run_getMap hw, h.check]
  rw [h.find]
  simp only [Result.andThen_ok]
  cases hq : place a b E 0 with
  | some p => rw [hq, hn] at hpl; cases hpl
  | none =>
    simp only []
    rw [run_setMap hw]
    simp [Ent.to]

end
end Go.Am
