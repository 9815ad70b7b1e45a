/-
  The reference's bank: Drop, Save, where there is a map.
-/
import Derived.Test.YtlgfopfibopcnaaRefWho
import Derived.StillTailTactics
import Derived.BigRegion
namespace Go.Proofs.Ytlgfopfibopcnaa
open Go Go.RowKit Go.Maps Go.Am Go.Lib
set_option linter.unusedVariables false

/-- The reference's bank is at R; what it holds is E (it may have no map yet). -/
structure RefAt (w : World) (R : Nat) (m : Option Nat) (n : Nat) (E : DataW Value) : Prop where
  ptr : w.cell? ⟨R, 0, none⟩ = some (.map m)
  fz : w.frozen? ⟨R, 0, none⟩ = false
  lt : R < w.heap.size
  own : match m with | none => E = .map [] | some b => R ≠ b ∧ w.ownsMap Try.prog 3 regsR b n E

theorem RefAt.kept {w w' : World} {R n : Nat} {m : Option Nat} {E : DataW Value} {l : List Nat} (h : RefAt w R m n E) (hg : GrowBut w w' l) (h1 : R ∉ l) (h2 : ∀ b, m = some b → b ∉ l) : RefAt w' R m n E :=
  ⟨hg.cell h.ptr h1, hg.frozen h.lt h.fz h1, Nat.lt_of_lt_of_le h.lt hg.size, by
    have := h.own
    cases m with
    | none => exact this
    | some b => exact ⟨this.1, hg.map this.2 (h2 b rfl)⟩⟩

theorem zeroRegs_eq : zeroRegs = .agg #[.int .u64 0, .int .u64 0, .int .u64 0, .int .u64 0, .int .u64 0, .int .u64 0, .int .u64 0, .int .u64 0] := rfl

set_option maxRecDepth 100000 in
set_option maxHeartbeats 2000000 in
theorem refDrop_some (R m n : Nat) (k : Int) (E : DataW Value) (w : World) (h : RefAt w R (some m) n E) (hk : (Lit.int .i64 k).wf = true) :
    Calls Try.prog 33 #[.pointer (some ⟨R, 0, none⟩), .int .i64 k] w fun e w' => e = .returned (.bool (Maps.has E (kI k))) ∧ RefAt w' R (some m) n (E.del (kI k)) ∧ GrowBut w w' [m] := by
  have hptr := h.ptr
  have hne := h.own.1
  have hown := h.own.2
  generalize hhas : Maps.has E (kI k) = has
  go_enter Try.func33, Try.ntmps33
  go_wp2_with (first
    | (at_lookup; refine wpList_lookup_own_ok _ rfl _ _ 44 rfl 3 48 law3B Try.underlying44 _ (zeroR _) (.held zeroRegs) [] (regsR_mk zeroRegs_is) m n E rfl hown _ _ rfl (keyI hk) ?_; intro v ps hv; obtain ⟨⟨x0, x1, x2, x3, x4, x5, x6, x7, hvv⟩, hat, _⟩ := regsR_inv hv; rw [hvv, hhas]; clear hv hhas hat; have hga := GrowBut.alloc w (.cells #[.int .u64 x0, .int .u64 x1, .int .u64 x2, .int .u64 x3, .int .u64 x4, .int .u64 x5, .int .u64 x6, .int .u64 x7] 48) []; have hptr1 := hga.cell hptr (by simp))
    | (at_delete; refine wpList_delete_own _ rfl _ _ 44 3 rfl 48 law3B Try.underlying44 _ m n E rfl (hown.alloc _) _ _ rfl (keyI hk) ?_; intro w2 hown2 hturn2)
    | go_in)
  go_ret
  have hm := h.kept hga (by simp) (fun b _ => by simp)
  exact ⟨rfl, ⟨hturn2.grown.cell hm.ptr (by simpa using hne), by rw [hturn2.frozen]; exact hm.fz, Nat.lt_of_lt_of_le hm.lt hturn2.grown.size, hne, hown2⟩, (hga.mono (by simp)).trans (.of_some hturn2.grown)⟩

set_option maxRecDepth 100000 in
set_option maxHeartbeats 2000000 in
theorem refDrop_none (R n : Nat) (k : Int) (E : DataW Value) (w : World) (h : RefAt w R none n E) (hk : (Lit.int .i64 k).wf = true) :
    Calls Try.prog 33 #[.pointer (some ⟨R, 0, none⟩), .int .i64 k] w fun e w' => e = .returned (.bool false) ∧ GrowBut w w' [] := by
  have hptr := h.ptr
  have hnil := fun w : World => look_nil (w := w) true law3B Try.underlying44 (zeroR w) (keyI hk)
  have hdel := fun w : World => drop_nil (w := w) law3B Try.underlying44 (keyI hk)
  rw [zeroRegs_eq] at hnil
  have hga := GrowBut.alloc w (.cells #[.int .u64 0, .int .u64 0, .int .u64 0, .int .u64 0, .int .u64 0, .int .u64 0, .int .u64 0, .int .u64 0] 48) []
  have hptr1 := hga.cell hptr (by simp)
  go_enter Try.func33, Try.ntmps33
  go_wp2
  go_ret
  exact ⟨rfl, hga⟩

theorem range_nil (w : World) : (Instr.range 44 (.map none)).run Try.prog w = .ok (.pointer (some ⟨w.heap.size, 0, none⟩)) (w.alloc (.mapIter none 0 #[] 0)) := by
  simp [Instr.range, run_underlying Try.underlying44, Result.andThen, newObj, Sem.run]

theorem next_nil (w : World) (r : Nat) (ty : TypeId) (h : w.heap[r]? = some (.mapIter none 0 #[] 0)) : (Instr.next (.pointer (some ⟨r, 0, none⟩)) false ty).run Try.prog w = .ok (.tuple #[.bool false]) w := by
  simp [Instr.next, getObj, Sem.run_bind, Sem.run, h, Result.andThen]

set_option maxRecDepth 100000 in
set_option maxHeartbeats 2000000 in
theorem refWho_none (R n : Nat) (E : DataW Value) (w : World) (h : RefAt w R none n E) :
    Calls Try.prog 38 #[.pointer (some ⟨R, 0, none⟩)] w fun e w' => e = .returned (.slice none 0 0) ∧ GrowBut w w' [] := by
  have hptr := h.ptr
  have hnil := range_nil w
  have hnx := fun ty => next_nil (w.alloc (.mapIter none 0 #[] 0)) w.heap.size ty (heap_alloc_new _ _)
  go_enter Try.func38, Try.ntmps38
  go_wp2_with go_in
  go_loopw [3] (fun v3 wr => v3 = .slice none 0 0 ∧ wr = w.alloc (.mapIter none 0 #[] 0)) (fun _ _ => 0)
  case atStart => exact ⟨rfl, rfl⟩
  case round =>
    obtain ⟨rfl, rfl⟩ := hrel
    go_wp2_with go_in
    go_ret
    exact ⟨rfl, GrowBut.alloc _ _ _⟩

/-- Who: whether there is a map or not. -/
theorem refWhoO (R n : Nat) (m : Option Nat) (E : DataW Value) (w : World) (h : RefAt w R m n E) (hn : n ≤ 1000) :
    Calls Try.prog 38 #[.pointer (some ⟨R, 0, none⟩)] w fun r w' => ∃ (v : Value) (L : List Int), r = .returned v ∧ L.Perm (intKeys E) ∧ Rises L ∧ w'.ownsRow w.heap.size 3 1 v L.length (L.map (Value.int .i64)) ∧ GrowBut w w' [] := by
  cases m with
  | none =>
    refine (refWho_none R n E w h).mono ?_
    rintro e w' ⟨rfl, hg⟩
    obtain rfl : E = .map [] := h.own
    exact ⟨_, [], rfl, List.Perm.refl _, List.Pairwise.nil, World.ownsRow_nil _ _ _ _, hg⟩
  | some b => exact refWho_calls R b n E w h.ptr h.own.2 hn

theorem row_cellsR {w : World} {base k : Nat} {v : Value} {L : List Int} (hrow : w.ownsRow base 3 1 v k (L.map (Value.int .i64))) (hk : L.length = k) : (v = .slice none 0 0 ∧ k = 0) ∨ ∃ g cap, v = .slice (some ⟨g, 0, none⟩) k cap ∧ base ≤ g ∧ g < w.heap.size ∧ ∀ i, i < k → w.cell? ⟨g, i, none⟩ = some (.int .i64 (L.getD i 0)) := by
  rcases hrow.2 with ⟨rfl, hz⟩ | ⟨g, cap, cur, rfl, hbase, hb, h1, h2, h3, h4⟩
  · exact .inl ⟨rfl, hz⟩
  · refine .inr ⟨g, cap, rfl, hbase, (Array.getElem?_eq_some_iff.1 hb).1, fun i hi => ?_⟩
    have h5 : (cur.toList.take (k * 1))[i]? = (L.map (Value.int .i64))[i]? := by rw [h4]
    rw [List.getElem?_take_of_lt (by omega), List.getElem?_map] at h5
    have h6 : L[i]? = some (L.getD i 0) := by rw [List.getD_eq_getElem?_getD, List.getElem?_eq_getElem (by omega)]; rfl
    rw [h6] at h5
    simp only [World.cell?, hb]
    simpa using h5

/-- Two maps read alike at every number. -/
def Like (D E : DataW Value) : Prop := ∀ x : Int, Maps.has D (kI x) = Maps.has E (kI x) ∧ ∀ z, D.atKey (kI x) z = E.atKey (kI x) z

theorem kI_ne {x y : Int} (h : x ≠ y) : kI x ≠ kI y := fun e => h (by cases e; rfl)

theorem keyLit_i (k : Int) : WideAt.IsKeyLit (kI k) := by trivial

theorem Like.put {D E : DataW Value} (h : Like D E) (hD : IsMap D) (hE : IsMap E) (k : Int) (v : DataW Value) : Like (D.put (kI k) v) (E.put (kI k) v) := fun x => by
  by_cases hx : x = k
  · subst hx
    rw [has_put_same hD (keyLit_i _), has_put_same hE (keyLit_i _)]
    exact ⟨rfl, fun z => by rw [atKey_put_same hD (keyLit_i _), atKey_put_same hE (keyLit_i _)]⟩
  · rw [has_put_other (kI_ne hx), has_put_other (kI_ne hx)]
    exact ⟨(h x).1, fun z => by rw [atKey_put_other (kI_ne hx), atKey_put_other (kI_ne hx)]; exact (h x).2 z⟩

theorem Like.del {D E : DataW Value} (h : Like D E) (k : Int) : Like (D.del (kI k)) (E.del (kI k)) := fun x => by
  by_cases hx : x = k
  · subst hx
    rw [has_del_same, has_del_same]
    exact ⟨rfl, fun z => by rw [atKey_del_same, atKey_del_same]⟩
  · rw [has_del_other (kI_ne hx), has_del_other (kI_ne hx)]
    exact ⟨(h x).1, fun z => by rw [atKey_del_other (kI_ne hx), atKey_del_other (kI_ne hx)]; exact (h x).2 z⟩

theorem mem_intKeysR {w : World} {b n : Nat} {D : DataW Value} {R : Value → Option (DataW Value × List MemPlace)} (h : w.ownsMap Try.prog 3 R b n D) (x : Int) : x ∈ intKeys D ↔ Maps.has D (kI x) = true := by
  obtain ⟨es, rfl, hko⟩ := h.keysOf
  have hk : ∀ p ∈ es, ∃ y, p.1 = .int .i64 y := fun p hp => by
    obtain ⟨v, hv⟩ := hko p hp
    obtain ⟨y, _, hy, _⟩ := Maps.keyOf_int_inv Try.underlying3 hv
    exact ⟨y, hy⟩
  show x ∈ es.map (fun p => Go.intOf p.1) ↔ _
  rw [Maps.has_eq, List.any_eq_true, List.mem_map]
  constructor
  · rintro ⟨p, hp, rfl⟩
    obtain ⟨y, hy⟩ := hk p hp
    exact ⟨p, hp, by rw [hy]; simp [Lit.sameKey, Go.intOf]⟩
  · rintro ⟨p, hp, hs⟩
    obtain ⟨y, hy⟩ := hk p hp
    refine ⟨p, hp, ?_⟩
    rw [hy] at hs ⊢
    simp [Lit.sameKey] at hs
    simp [Go.intOf, hs]

theorem atKey_has {D : DataW Value} {k : Lit} (h : Maps.has D k = true) (z z' : DataW Value) : D.atKey k z = D.atKey k z' := by
  cases D with
  | map es =>
    simp only [DataW.atKey]
    rw [Maps.has_eq] at h
    cases hf : es.find? (fun p => p.1.sameKey k) with
    | some p => rfl
    | none =>
      rw [List.find?_eq_none] at hf
      rw [List.any_eq_true] at h
      obtain ⟨p, hp, h1⟩ := h
      exact absurd h1 (hf p hp)
  | _ => cases h

theorem RefAt.isMap {w : World} {R n : Nat} {m : Option Nat} {E : DataW Value} (h : RefAt w R m n E) : IsMap E := by
  have := h.own
  cases m with
  | none => obtain rfl : E = .map [] := this; exact isMap_empty
  | some b => exact this.2.isMap

theorem RefAt.mem_keys {w : World} {R n : Nat} {m : Option Nat} {E : DataW Value} (h : RefAt w R m n E) (x : Int) : x ∈ intKeys E ↔ Maps.has E (kI x) = true := by
  have := h.own
  cases m with
  | none => obtain rfl : E = .map [] := this; simp [intKeys, Maps.has]
  | some b => exact mem_intKeysR this.2 x

/-- The copy so far: what of E lies at the first i of L. -/
def CopyTo (D E : DataW Value) (L : List Int) (i : Nat) : Prop := ∀ x : Int, Maps.has D (kI x) = decide (x ∈ L.take i) ∧ (x ∈ L.take i → ∀ z, D.atKey (kI x) z = E.atKey (kI x) z)

set_option maxRecDepth 100000 in
set_option maxHeartbeats 4000000 in
theorem refSave_calls (R n : Nat) (m : Option Nat) (k : Int) (v : Value) (E : DataW Value) (w : World) (h : RefAt w R m n E) (hk : (Lit.int .i64 k).wf = true) (hv : IsRegs v) (hn : n ≤ 900) :
    Calls Try.prog 35 #[.pointer (some ⟨R, 0, none⟩), .int .i64 k, v] w fun e w' => e = .returned (.tuple #[]) ∧ ∃ (m' n' : Nat) (E' : DataW Value), w.heap.size ≤ m' ∧ n' ≤ n + 1 ∧ RefAt w' R (some m') n' E' ∧ Like E' (E.put (kI k) (.held v)) ∧ GrowBut w w' [R] := by
  obtain ⟨x0, x1, x2, x3, x4, x5, x6, x7, rfl⟩ := hv
  have hptr := h.ptr
  go_enter Try.func35, Try.ntmps35
  have hmm := @run_makeMap Try.prog
  have hg1 : GrowBut w ((w.alloc (.cells #[.int .u64 x0, .int .u64 x1, .int .u64 x2, .int .u64 x3, .int .u64 x4, .int .u64 x5, .int .u64 x6, .int .u64 x7] 48)).alloc (.map #[] 0)) [] := (GrowBut.alloc _ _ _).trans (GrowBut.alloc _ _ _)
  have hR := h.kept hg1 (by simp) (fun b _ => by simp)
  go_wp2_with (first
    | (go_at_call 38; refine (refWhoO R n m E _ hR (by omega)).mono ?_; rintro e w2 ⟨v, L, rfl, hp, hris, hrow, hg2⟩)
    | go_in)
  have hs2 := hg2.size
  simp at hs2
  have hfresh : w2.ownsMap Try.prog 3 regsR (w.heap.size + 1) 0 (.map []) := hg2.map (by simpa using World.ownsMap_made (w.alloc (.cells #[.int .u64 x0, .int .u64 x1, .int .u64 x2, .int .u64 x3, .int .u64 x4, .int .u64 x5, .int .u64 x6, .int .u64 x7] 48)) Try.prog 3 regsR) (by simp)
  have hLn : L.length ≤ n := by
    have h1 := hp.length_eq
    have h2 := h.own
    cases m with
    | none => obtain rfl : E = .map [] := h2; have h3 : L.length = 0 := h1; omega
    | some b =>
      have h3 := h2.2.size_le
      obtain ⟨es, hD, _⟩ := h2.2.entries law3B
      rw [hD] at h1 h3
      simp [intKeys, Maps.size] at h1 h3
      omega
  have hk0 : ∃ q cq, v = .slice q L.length cq := by
    rcases row_cellsR hrow rfl with ⟨rfl, h0⟩ | ⟨g, cq, rfl, _⟩
    · exact ⟨none, 0, by rw [h0]⟩
    · exact ⟨_, _, rfl⟩
  have hcells := row_cellsR hrow rfl
  obtain ⟨q, cq, rfl⟩ := hk0
  have hR2 : RefAt w2 R m n E := hR.kept hg2 (by simp) (fun b _ => by simp)
  have hG2 : GrowBut w w2 [] := hg1.trans hg2
  go_loopw [8] (fun v8 wr => ∃ (i : Nat) (D : DataW Value), v8 = .int .i64 i ∧ i ≤ L.length ∧ wr.ownsMap Try.prog 3 regsR (w.heap.size + 1) i D ∧ CopyTo D E L i ∧ GrowBut w2 wr [w.heap.size + 1]) (fun v8 _ => L.length - (match v8 with | .int _ k => k.toNat | _ => 0))
  case atStart => exact ⟨0, _, rfl, by omega, hfresh, fun x => ⟨by simp [Maps.has], by simp⟩, .refl _ _⟩
  case round =>
    obtain ⟨i, D, rfl, hi, hD, hC, hG⟩ := hrel
    by_cases hlt : i < L.length
    · obtain ⟨g, rfl, hg0, hgl, hgc⟩ : ∃ g, q = some ⟨g, 0, none⟩ ∧ w.heap.size + 2 ≤ g ∧ g < w2.heap.size ∧ ∀ i, i < L.length → w2.cell? ⟨g, i, none⟩ = some (.int .i64 (L.getD i 0)) := by
        rcases hcells with ⟨_, h0⟩ | ⟨g, cap, e, h1, h2, h3⟩
        · omega
        · cases e; exact ⟨g, rfl, by simpa using h1, h2, h3⟩
      have hxm := getD_memW hlt
      have hci : wr.cell? ⟨g, i, none⟩ = some (.int .i64 (L.getD i 0)) := hG.cell (hgc i hlt) (by simp; omega)
      have htake : ∀ y, y ∈ L.take (i + 1) ↔ y ∈ L.take i ∨ y = L.getD i 0 := fun y => by
        rw [List.take_add_one, getD_eqW hlt, List.getElem?_eq_getElem hlt]; simp only [Option.toList, List.mem_append, List.mem_singleton]
      generalize L.getD i 0 = x at hci hxm htake
      have hlt' : (i : Int) < (L.length : Int) := by omega
      have hR3 : RefAt wr R m n E := hR2.kept hG (by have := h.lt; simp; omega) (fun b hb => by
        subst hb
        have := h.own.2.lt
        simp; omega)
      clear hcells hgc hmm
      cases m with
      | none =>
        obtain rfl : E = .map [] := h.own
        have := hp.mem_iff.1 hxm
        cases this
      | some b =>
        have hown := hR3.own.2
        have hwx := intKeys_wf hown Try.underlying3 x (hp.mem_iff.1 hxm)
        have hhx := (mem_intKeysR hown x).1 (hp.mem_iff.1 hxm)
        obtain ⟨v, ps, hlook, hv⟩ := hown.drew.lookup law3B Try.underlying44 (zeroR _) (zd := .held zeroRegs) (zp := []) (regsR_mk zeroRegs_is) (keyI hwx)
        obtain ⟨⟨y0, y1, y2, y3, y4, y5, y6, y7, rfl⟩, hat, _⟩ := regsR_inv hv
        have hp3 := hR3.ptr
        go_wp2_with go_in
        go_still_tail 14, (by kernel_rfl)
        change wpList _ _ _ _ _ wr.drew
        go_wp2_with (first
          | (at_mapUpdate; refine wpList_mapUpdate_own _ rfl _ _ _ 44 rfl 3 48 law3B Try.underlying44 regsR (w.heap.size + 1) i D rfl hD.drew (by unfold maxLen; omega) _ _ (kI x) rfl rfl (keyI hwx) _ [] (regsR_mk ⟨_, _, _, _, _, _, _, _, rfl⟩) ?_; intro w3 hown3 hg3)
          | go_in)
        refine ⟨⟨i + 1, _, by simp, by omega, hown3, fun y => ?_, (hG.trans (.drew _ _)).trans (.of_some ⟨hg3.os, hg3.tape, hg3.output, hg3.size, hg3.block⟩)⟩, by simp; omega⟩
        by_cases hy : y = x
        · subst hy
          rw [has_put_same hD.isMap (keyLit_i _)]
          refine ⟨by simp [htake], fun _ z => ?_⟩
          rw [atKey_put_same hD.isMap (keyLit_i _)]
          exact hat.symm.trans (atKey_has hhx _ _)
        · rw [has_put_other (kI_ne hy)]
          refine ⟨by rw [(hC y).1]; simp [htake, hy], fun hm z => ?_⟩
          rw [atKey_put_other (kI_ne hy)]
          exact (hC y).2 (by simpa [htake, hy] using hm) z
    · obtain rfl : i = L.length := by omega
      have hge : ¬ (L.length : Int) < (L.length : Int) := by omega
      have hRlt := h.lt
      have hR3 : RefAt wr R m n E := hR2.kept hG (by simp; omega) (fun b hb => by
        subst hb
        have := h.own.2.lt
        simp; omega)
      clear hcells hmm hlt
      have hbox : GrowBut (w.alloc (.cells #[.int .u64 x0, .int .u64 x1, .int .u64 x2, .int .u64 x3, .int .u64 x4, .int .u64 x5, .int .u64 x6, .int .u64 x7] 48)) wr [w.heap.size + 1] := ((GrowBut.alloc _ _ _).trans (hg2.mono (by simp))).trans hG
      have c0 : wr.cell? ⟨w.heap.size, 0, none⟩ = some (.int .u64 x0) := hbox.cell (by go_simp) (by simp)
      have c1 : wr.cell? ⟨w.heap.size, 1, none⟩ = some (.int .u64 x1) := hbox.cell (by go_simp) (by simp)
      have c2 : wr.cell? ⟨w.heap.size, 2, none⟩ = some (.int .u64 x2) := hbox.cell (by go_simp) (by simp)
      have c3 : wr.cell? ⟨w.heap.size, 3, none⟩ = some (.int .u64 x3) := hbox.cell (by go_simp) (by simp)
      have c4 : wr.cell? ⟨w.heap.size, 4, none⟩ = some (.int .u64 x4) := hbox.cell (by go_simp) (by simp)
      have c5 : wr.cell? ⟨w.heap.size, 5, none⟩ = some (.int .u64 x5) := hbox.cell (by go_simp) (by simp)
      have c6 : wr.cell? ⟨w.heap.size, 6, none⟩ = some (.int .u64 x6) := hbox.cell (by go_simp) (by simp)
      have c7 : wr.cell? ⟨w.heap.size, 7, none⟩ = some (.int .u64 x7) := hbox.cell (by go_simp) (by simp)
      have hfz3 := hR3.fz
      have hp3 := hR3.ptr
      go_wp2_with (first
          | (at_mapUpdate; refine wpList_mapUpdate_own _ rfl _ _ _ 44 rfl 3 48 law3B Try.underlying44 regsR (w.heap.size + 1) L.length D rfl hD.drew (by unfold maxLen; omega) _ _ (kI k) rfl rfl (keyI hk) _ [] (regsR_mk ⟨_, _, _, _, _, _, _, _, rfl⟩) ?_; intro w3 hown3 hg3; have hG3 : GrowBut wr w3 [w.heap.size + 1] := .of_some ⟨hg3.os, hg3.tape, hg3.output, hg3.size, hg3.block⟩; have hRn : R ∉ [w.heap.size + 1] := (by simp; omega); have hR4 := hR3.ptr; have hp4 := hG3.cell hp3 hRn; have hfz4 := hG3.frozen (Nat.lt_of_lt_of_le hRlt (Nat.le_trans hG2.size hG.size)) hfz3 hRn)
          | go_in)
      go_end0
      have hs3 := hG3.size
      have hsr := hG.size
      refine ⟨rfl, w.heap.size + 1, by omega, L.length + 1, Nat.succ_le_succ hLn, _, ⟨by go_simp, by go_simp, by simp; omega, ⟨by omega, hown3.setCell (a := ⟨R, 0, none⟩) (by simp; omega) (.map (some (w.heap.size + 1)))⟩⟩, ?_, ?_⟩
      · refine Like.put (v := .held _) (fun x => ?_) hD.isMap h.isMap k
        have hmx := h.mem_keys x
        have h1 := hC x
        rw [List.take_length] at h1
        rw [← hp.mem_iff] at hmx
        by_cases hx : x ∈ L
        · exact ⟨by rw [h1.1, hmx.1 hx]; simpa using hx, fun z => h1.2 hx z⟩
        · have h2 : Maps.has E (kI x) = false := by simpa using fun e => hx (hmx.2 e)
          have h3 : Maps.has D (kI x) = false := by rw [h1.1]; simpa using hx
          exact ⟨by rw [h2, h3], fun z => by rw [Maps.atKey_of_not_has h2, Maps.atKey_of_not_has h3]⟩
      · exact (hG2.mono (by simp)).from (((hG.mono (l' := [R, w.heap.size + 1]) (by simp)).trans (hG3.mono (by simp))).trans ((GrowBut.setCell _ _ _).mono (by simp))) (fun x hx => by simp at hx; rcases hx with rfl | rfl; simp; right; omega)

end Go.Proofs.Ytlgfopfibopcnaa
