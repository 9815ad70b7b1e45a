/-
  The abstract machine's operations against the model's, one by one.
-/
import Derived.Test.YtonbcchdaboigaaAm3
namespace Go.Am
open Go Go.RowKit
set_option linter.unusedVariables false

section
variable {σ : Syms} {N0 : Nat} {w0 : World} {P : Program}

/-- The model's run of an operation that hands back a value, beside the abstract one's. -/
def VSem (P : Program) (σ : Syms) (N0 : Nat) (w0 : World) (sem : Sem Value) (ρ : Ren) (s : AState) (w : World) (v : AVal) (s' : AState) : Prop :=
  ∃ u w' ρ', sem.run P w = .ok u w' ∧ VRel σ ρ' v u ∧ Post σ N0 w0 ρ s w ρ' s' w'

def USem (P : Program) (σ : Syms) (N0 : Nat) (w0 : World) (sem : Sem Unit) (ρ : Ren) (s : AState) (w : World) (s' : AState) : Prop :=
  ∃ w' ρ', sem.run P w = .ok () w' ∧ Post σ N0 w0 ρ s w ρ' s' w'

def EvOk (σ : Syms) (ρ : Ren) (ev : Operand → R AVal) (e : Operand → Value) (x : Operand) : Prop := ∀ v, ev x = .ok v → VRel σ ρ v (e x)

/-- The abstract answer of an operation and the model's. -/
def NSem (P : Program) (σ : Syms) (N0 : Nat) (w0 : World) (sem : Sem Next) (ρ : Ren) (s : AState) (w : World) (nx : ANext) (s' : AState) : Prop :=
  ∃ v, nx = .val v ∧ ∃ u w' ρ', (sem.run P w = .ok (.value u) w' ∨ (sem.run P w = .ok .skip w' ∧ u = undef)) ∧ VRel σ ρ' v u ∧ Post σ N0 w0 ρ s w ρ' s' w'

theorem VRel.undef {ρ : Ren} : VRel σ ρ aundef undef := by
  simp only [aundef, Go.undef, VRel]
  exact ⟨#[], rfl, rfl⟩

theorem NSem.of_v {sem : Sem Value} {ρ : Ren} {s : AState} {w : World} {v : AVal} {s' : AState} (h : VSem P σ N0 w0 sem ρ s w v s') :
    NSem P σ N0 w0 (do pure (.value (← sem))) ρ s w (.val v) s' := by
  obtain ⟨u, w', ρ', h1, h2, h3⟩ := h
  exact ⟨v, rfl, u, w', ρ', .inl (by simp [h1]), h2, h3⟩

theorem NSem.of_u {sem : Sem Unit} {ρ : Ren} {s : AState} {w : World} {s' : AState} (h : USem P σ N0 w0 sem ρ s w s') :
    NSem P σ N0 w0 (do sem; pure .skip) ρ s w (.val aundef) s' := by
  obtain ⟨w', ρ', h1, h3⟩ := h
  exact ⟨aundef, rfl, undef, w', ρ', .inr ⟨by simp [h1], rfl⟩, VRel.undef, h3⟩

theorem VSem.pure {sem : Sem Value} {ρ : Ren} {s : AState} {w : World} {v : AVal} {u : Value} (hw : WRel σ N0 w0 ρ s w) (h : sem.run P w = .ok u w) (hv : VRel σ ρ v u) :
    VSem P σ N0 w0 sem ρ s w v s := ⟨u, w, ρ, h, hv, Post.refl hw⟩

theorem okv_ok {v : AVal} {s : AState} {nx : ANext} {s' : AState} (h : okv v s = .ok (nx, s')) : nx = .val v ∧ s' = s := by
  simp only [okv, R.ok.injEq, Prod.mk.injEq] at h
  exact ⟨h.1.symm, h.2.symm⟩

/-! ### Types -/
theorem und_ok {t : TypeId} {d : TypeDesc} (h : und P t = .ok d) : P.underlying t = some d := R.of_ok h
theorem szOf_ok {t : TypeId} {n : Nat} (h : szOf P t = .ok n) : ∃ i, P.info? t = some i ∧ i.size = n := by
  have := R.of_ok h
  simpa [Option.map_eq_some_iff] using this
theorem byOf_ok {t : TypeId} {n : Nat} (h : byOf P t = .ok n) : ∃ i, P.info? t = some i ∧ i.bytes = n := by
  have := R.of_ok h
  simpa [Option.map_eq_some_iff] using this

theorem run_und {t : TypeId} {d : TypeDesc} (h : und P t = .ok d) (w : World) : (underlying t).run P w = .ok d w := run_underlying (und_ok h) w
theorem run_sz {t : TypeId} {n : Nat} (h : szOf P t = .ok n) (w : World) : (sizeOf t).run P w = .ok n w := by
  obtain ⟨i, h1, h2⟩ := szOf_ok h
  simp [sizeOf, typeInfo, h1, h2]
theorem run_info {t : TypeId} {i : TypeInfo} (h : P.info? t = some i) (w : World) : (typeInfo t).run P w = .ok i w := by
  simp [typeInfo, h]

theorem vOne_oneCell {v : Value} (h : vOne v = true) : v.oneCell' = true := by cases v <;> first | rfl | simp [vOne] at h

theorem VRels.lits {ρ : Ren} : ∀ {l : List Value}, (∀ v ∈ l, vOne v = true) → VRels σ ρ (l.map .lit) l
  | [], _ => rfl
  | v :: r, h => ⟨v, r, rfl, ⟨rfl, h v (by simp)⟩, VRels.lits fun x hx => h x (by simp [hx])⟩

theorem ofVal_ok {ρ : Ren} {v : Value} {a : AVal} (h : ofVal v = some a) : VRel σ ρ a v := by
  unfold ofVal at h
  split at h
  · rename_i cs
    cases hq : cs.toList.all vOne with
    | false => rw [hq] at h; cases h
    | true =>
      rw [hq, cond_true] at h
      cases h
      exact ⟨cs, rfl, VRels.lits (List.all_eq_true.1 hq)⟩
  · rename_i vs
    split at h
    · rename_i hv
      cases h
      exact ⟨vs, rfl, hv⟩
    · cases h
  · rename_i h1 h2
    cases h
    refine ⟨rfl, ?_⟩
    cases v <;> first | rfl | exact absurd rfl (h1 _) | exact absurd rfl (h2 _)

theorem ofVal_one {v : Value} {z : AVal} (h3 : ofVal v = some z) : z = .tup [] ∨ z.cells.all AVal.oneCell = true := by
  unfold ofVal at h3
  split at h3
  · rename_i cs
    cases hq : cs.toList.all vOne with
    | false => rw [hq] at h3; cases h3
    | true => rw [hq, cond_true] at h3; cases h3; right; simp [AVal.cells, AVal.oneCell]
  · split at h3
    · cases h3; exact .inl rfl
    · cases h3
  · cases h3; right; simp [AVal.cells, AVal.oneCell]

theorem zeroOf_raw {t : TypeId} {z : AVal} (h : zeroOf P t = .ok z) : ∃ i v, P.info? t = some i ∧ i.zero = some v ∧ ∀ ρ, VRel σ ρ z v := by
  have := R.of_ok h
  simp only [Option.bind_eq_some_iff] at this
  obtain ⟨v, ⟨i, h1, h2⟩, h3⟩ := this
  exact ⟨i, v, h1, h2, fun ρ => ofVal_ok h3⟩

theorem zeroOf_ok {t : TypeId} {z : AVal} (h : zeroOf P t = .ok z) : ∃ v, (∀ w, (zeroValue t).run P w = .ok v w) ∧ ∀ ρ, VRel σ ρ z v := by
  have := R.of_ok h
  simp only [Option.bind_eq_some_iff] at this
  obtain ⟨v, ⟨i, h1, h2⟩, h3⟩ := this
  exact ⟨v, fun w => by simp [zeroValue, typeInfo, h1, h2], fun ρ => ofVal_ok h3⟩

theorem zeroOf_one {t : TypeId} {z : AVal} (h : zeroOf P t = .ok z) : z = .tup [] ∨ z.cells.all AVal.oneCell = true := by
  have := R.of_ok h
  simp only [Option.bind_eq_some_iff] at this
  obtain ⟨v, _, h3⟩ := this
  exact ofVal_one h3

/-! ### Runs that ask nothing of memory -/
theorem pureRun_ok {α : Type} (w : World) : ∀ {x : Sem α} {a : α}, pureRun P x = some a → x.run P w = .ok a w
  | .pure b, a, h => by simp only [pureRun, Option.some.injEq] at h; subst h; rfl
  | .program k, a, h => by simp only [pureRun] at h; exact pureRun_ok (x := k P) w h
  | .mark _ k, a, h => by simp only [pureRun] at h; exact pureRun_ok (x := k) w h
  | .load .., a, h => by simp [pureRun] at h
  | .store .., a, h => by simp [pureRun] at h
  | .new .., a, h => by simp [pureRun] at h
  | .shape .., a, h => by simp [pureRun] at h
  | .freeze .., a, h => by simp [pureRun] at h
  | .frozen .., a, h => by simp [pureRun] at h
  | .getObj .., a, h => by simp [pureRun] at h
  | .setObj .., a, h => by simp [pureRun] at h
  | .choose .., a, h => by simp [pureRun] at h
  | .sys .., a, h => by simp [pureRun] at h
  | .halt .., a, h => by simp [pureRun] at h

theorem litV_ok {o : Option Value} {a : AVal} (h : litV o = .ok a) : ∃ v, o = some v ∧ ∀ ρ, VRel σ ρ a v := by
  obtain ⟨v, h1, h2⟩ := R.bind_ok' h
  exact ⟨v, R.of_ok h1, fun ρ => ofVal_ok (R.of_ok h2)⟩

theorem litsOf_ok {ρ : Ren} : ∀ {cs : List AVal} {l : List Value} {ws : List Value}, litsOf cs = some l → VRels σ ρ cs ws → ws = l
  | [], l, ws, h, hv => by simp only [litsOf, Option.some.injEq] at h; simp only [VRels] at hv; rw [hv, ← h]
  | .lit v :: r, l, ws, h, hv => by
    simp only [litsOf] at h
    cases hr : litsOf r with
    | none => rw [hr] at h; cases h
    | some k =>
      rw [hr] at h
      cases h
      obtain ⟨u, us, rfl, h1, h2⟩ := hv
      simp only [VRel] at h1
      rw [h1.1, litsOf_ok hr h2]
  | .sym _ :: r, l, ws, h, hv | .ptr .. :: r, l, ws, h, hv | .slice .. :: r, l, ws, h, hv | .map _ :: r, l, ws, h, hv | .clo .. :: r, l, ws, h, hv | .agg _ :: r, l, ws, h, hv | .tup _ :: r, l, ws, h, hv => by simp [litsOf] at h

theorem toVal_ok {ρ : Ren} {a : AVal} {v u : Value} (h : toVal a = some v) (hv : VRel σ ρ a u) : u = v := by
  unfold toVal at h
  split at h
  · cases h; exact hv.1
  · rename_i cs
    split at h
    · rename_i l hl
      cases h
      obtain ⟨ws, rfl, hr⟩ := hv
      rw [← litsOf_ok hl hr]
    · cases h
  · cases h

/-! ### Memory -/
theorem getCells_ok {s : AState} {b : Nat} {cs : List AVal} (h : getCells s b = .ok cs) : ∃ g, s.heap.get b = some (.cells cs g) := by
  unfold getCells at h
  obtain ⟨o, h1, h2⟩ := R.bind_ok' h
  split at h2
  · rename_i c g; cases h2; exact ⟨g, get_ok h1⟩
  · cases h2

theorem nth_ok : ∀ {l : List AVal} {i : Nat} {v : AVal}, nth l i = .ok v → l[i]? = some v
  | [], i, v, h => by simp [nth] at h
  | x :: r, 0, v, h => by simp only [nth, R.ok.injEq] at h; simp [h]
  | x :: r, i + 1, v, h => by simp only [nth] at h; simpa using nth_ok h

theorem takeN_ok {l r : List AVal} {o n : Nat} (h : takeN l o n = .ok r) : r = (l.drop o).take n ∧ r.length = n := by
  unfold takeN at h
  simp only [] at h
  cases hq : Nat.beq ((l.drop o).take n).length n with
  | false => rw [hq] at h; cases h
  | true => rw [hq, cond_true] at h; cases h; exact ⟨rfl, Nat.eq_of_beq_eq_true hq⟩

theorem isAggD_ok {t : TypeId} {d : TypeDesc} (h : und P t = .ok d) (w : World) : (isAgg t).run P w = .ok (isAggD d) w := by
  unfold isAgg
  rw [Sem.run_bind, run_und h]
  cases d <;> rfl

/-- The cells of a range of a block. -/
theorem cells_of {ρ : Ren} {s : AState} {w : World} (hw : WRel σ N0 w0 ρ s w) {b : Nat} {cs : List AVal} {g : Bool} (hb : s.heap.get b = some (.cells cs g)) {L : Loc} (hL : ρ b = some L) (o n : Nat) {l : List AVal}
    (hl : takeN cs o n = .ok l) : ∃ us, us.length = n ∧ VRels σ ρ l us ∧ ∀ j v, us[j]? = some v → w.cell? ⟨L.blk, L.off + o + j, none⟩ = some v := by
  obtain ⟨h1, h2, h3⟩ := hw.heap b _ hb L hL
  obtain ⟨hl1, hl2⟩ := takeN_ok hl
  have hex : ∀ j, j < n → ∃ u, w.cell? ⟨L.blk, L.off + o + j, none⟩ = some u ∧ ∃ v, l[j]? = some v ∧ VRel σ ρ v u := fun j hj => by
    have hjl : j < l.length := by omega
    have hv : l[j]? = some l[j] := by simp [hjl]
    have hc : cs[o + j]? = some l[j] := by
      have : l[j]? = cs[o + j]? := by
        rw [hl1, List.getElem?_take, if_pos hj, List.getElem?_drop]
      rw [← this, hv]
    obtain ⟨u, hu, hr⟩ := h1 (o + j) l[j] hc
    exact ⟨u, by rw [Nat.add_assoc]; exact hu, l[j], hv, hr⟩
  let us : List Value := (List.range n).map fun j => (w.cell? ⟨L.blk, L.off + o + j, none⟩).getD undef
  have hus : us.length = n := by simp [us]
  have hget : ∀ j, j < n → us[j]? = w.cell? ⟨L.blk, L.off + o + j, none⟩ := fun j hj => by
    obtain ⟨u, hu, _⟩ := hex j hj
    simp [us, hj, hu]
  refine ⟨us, hus, VRels.of_get (by omega) fun j v hj => ?_, fun j v hj => ?_⟩
  · have hjn : j < n := by have := (List.getElem?_eq_some_iff.1 hj).1; omega
    obtain ⟨u, hu, v', hv', hr⟩ := hex j hjn
    rw [hv'] at hj; cases hj
    exact ⟨u, by rw [hget j hjn, hu], hr⟩
  · have hjn : j < n := by have := (List.getElem?_eq_some_iff.1 hj).1; omega
    rw [← hget j hjn]; exact hj

theorem loadA_ok {ρ : Ren} {s : AState} {w : World} (hw : WRel σ N0 w0 ρ s w) {t : TypeId} {b o : Nat} {v : AVal} (h : loadA P s t b o = .ok v) {L : Loc} (hL : ρ b = some L) :
    ∃ u, (loadVar t ⟨L.blk, L.off + o, none⟩).run P w = .ok u w ∧ VRel σ ρ v u := by
  unfold loadA at h
  obtain ⟨cs, hc, h⟩ := R.bind_ok' h
  obtain ⟨d, hd, h⟩ := R.bind_ok' h
  obtain ⟨g, hg⟩ := getCells_ok hc
  cases hq : isAggD d with
  | true =>
    rw [hq, cond_true] at h
    obtain ⟨n, hn, h⟩ := R.bind_ok' h
    obtain ⟨l, hl, h⟩ := R.bind_ok' h
    cases h
    obtain ⟨us, h1, h2, h3⟩ := cells_of hw hg hL o n hl
    have hload : (loadCells ⟨L.blk, L.off + o, none⟩ n).run P w = .ok us.toArray w := by
      have := run_loadCells_list (P := P) w ⟨L.blk, L.off + o, none⟩ us (fun j v hj => by rw [Addr.add_mid]; exact h3 j v hj)
      rwa [h1] at this
    refine ⟨.agg us.toArray, ?_, ⟨us.toArray, rfl, h2⟩⟩
    simp [loadVar, isAggD_ok hd, hq, run_sz hn, hload]
  | false =>
    rw [hq, cond_false] at h
    obtain ⟨u, hu, hr⟩ := (hw.heap b _ hg L hL).1 o v (nth_ok h)
    refine ⟨u, ?_, hr⟩
    simp [loadVar, isAggD_ok hd, hq, hu]

theorem Below.setCells' {B : Nat} {w : World} {b o : Nat} : ∀ (vs : List Value) (w : World) (o : Nat), B ≤ b → Below B w (w.setCells b o vs)
  | [], w, _, _ => Below.refl _ _
  | v :: r, w, o, hb => ((Below.refl B w).setCell (p := ⟨b, o, none⟩) hb v).trans (Below.setCells' (b := b) (o := o) (w := w) r _ _ hb)

theorem heap_setCells {b : Nat} : ∀ (vs : List Value) (w : World) (o c : Nat), c ≠ b → (w.setCells b o vs).heap[c]? = w.heap[c]?
  | [], w, _, _, _ => rfl
  | v :: r, w, o, c, hc => (heap_setCells r _ _ c hc).trans (Below.heap_setCell w ⟨b, o, none⟩ v c hc)

theorem size_setCells {b : Nat} : ∀ (vs : List Value) (w : World) (o : Nat), (w.setCells b o vs).heap.size = w.heap.size
  | [], w, _ => rfl
  | v :: r, w, o => (size_setCells r _ _).trans (by simp)

theorem splice_get {l : List AVal} {o : Nat} {vs : List AVal} (h : o + vs.length ≤ l.length) (j : Nat) :
    (splice l o vs)[j]? = if o ≤ j ∧ j < o + vs.length then vs[j - o]? else l[j]? := by
  unfold splice
  by_cases h1 : j < o
  · rw [List.append_assoc, List.getElem?_append_left (by simp; omega), List.getElem?_take, if_pos h1, if_neg (by omega)]
  · by_cases h2 : j < o + vs.length
    · rw [List.append_assoc, List.getElem?_append_right (by simp; omega), List.getElem?_append_left (by simp; omega), if_pos ⟨by omega, h2⟩]
      simp only [List.length_take]
      rw [Nat.min_eq_left (by omega)]
    · rw [List.getElem?_append_right (by simp; omega), if_neg (by omega), List.getElem?_drop]
      simp only [List.length_append, List.length_take]
      rw [Nat.min_eq_left (by omega)]
      congr 1
      omega

theorem splice_length {l : List AVal} {o : Nat} {vs : List AVal} (h : o + vs.length ≤ l.length) : (splice l o vs).length = l.length := by
  unfold splice; simp; omega

/-- The cells of a block of the run's own are written. -/
theorem storeCells_ok {ρ : Ren} {s s' : AState} {w : World} (hw : WRel σ N0 w0 ρ s w) {b o : Nat} {vs : List AVal} (h : storeCellsA s b o vs = .ok s') {L : Loc} (hL : ρ b = some L) {us : List Value} (hv : VRels σ ρ vs us) :
    (storeCells ⟨L.blk, L.off + o, none⟩ us).run P w = .ok () (w.setCells L.blk (L.off + o) us) ∧ Post σ N0 w0 ρ s w ρ s' (w.setCells L.blk (L.off + o) us) := by
  unfold storeCellsA at h
  obtain ⟨ob, hb, h⟩ := R.bind_ok' h
  split at h
  case h_2 => cases h
  rename_i cs g
  obtain ⟨_, hg, h⟩ := R.bind_ok' h
  have hg := guardR_ok hg
  simp only [Bool.and_eq_true, Nat.ble_eq] at hg
  obtain ⟨hlen, hone⟩ := hg
  have hb := get_ok hb
  obtain ⟨h1, h2, h3⟩ := hw.heap b _ hb L hL
  have hul := hv.length
  have hro : s.ro ≤ b := (write_ok (by have := hw.dom b (by rw [hb]; simp); have := hw.bnd; omega) h).1
  have hcell : ∀ j, j < us.length → (w.cell? ⟨L.blk, L.off + o + j, none⟩).isSome = true := fun j hj => by
    have hjc : o + j < cs.length := by omega
    obtain ⟨u, hu, _⟩ := h1 (o + j) cs[o + j] (by simp [hjc])
    rw [Nat.add_assoc, hu]; rfl
  have hfz : ∀ j, j < us.length → w.frozen? ⟨L.blk, L.off + o + j, none⟩ = false := fun j hj => by
    rw [Nat.add_assoc]; exact h2 (by simpa using hro) (o + j) (by omega)
  have hrun := run_storeCells_cells (P := P) L.blk (L.off + o) us 0 w (fun j hj => by simpa using hcell j hj) (fun j hj => by simpa using hfz j hj) (hv.oneCell hone)
  simp only [Nat.add_zero] at hrun
  refine ⟨hrun, Post.write hw h (by rw [hb]; simp) hL (Below.setCells' (b := L.blk) (o := 0) (w := w) us w _ ((hw.rng b L hL).2.1 hro)) (size_setCells us w _) (fun c hc => heap_setCells us w _ c hc) ?_⟩
  refine ⟨fun j v hj => ?_, fun _ j hj => ?_, fun hgr => ?_⟩
  · rw [splice_get hlen] at hj
    split at hj
    · rename_i hin
      obtain ⟨u, hu, hr⟩ := hv.get (j - o) v hj
      have hju : j - o < us.length := by omega
      refine ⟨u, ?_, hr⟩
      have := World.cell?_setCells_in L.blk us (L.off + o) w hcell (j - o) hju
      rw [show L.off + o + (j - o) = L.off + j by omega] at this
      rw [this]
      simpa [hju] using hu
    · rename_i hout
      rw [World.cell?_setCells_out L.blk us (L.off + o) w _ (fun _ _ => by simp only []; omega)]
      exact h1 j v hj
  · rw [World.frozen?_setCells]
    exact h2 (by simpa using hro) j (by rw [splice_length hlen] at hj; exact hj)
  · obtain ⟨ho0, hcl, hall⟩ := h3 hgr
    refine ⟨ho0, by rw [splice_length hlen]; exact hcl, fun i hi => ?_⟩
    rw [World.frozen?_setCells]
    refine ⟨?_, (hall i hi).2⟩
    by_cases hin : L.off + o ≤ i ∧ i < L.off + o + us.length
    · have := World.cell?_setCells_in L.blk us (L.off + o) w hcell (i - (L.off + o)) (by omega)
      rw [show L.off + o + (i - (L.off + o)) = i by omega] at this
      rw [this]; rfl
    · rw [World.cell?_setCells_out L.blk us (L.off + o) w _ (fun _ _ => by simp only []; omega)]
      exact (hall i hi).1

theorem storeA_ok {ρ : Ren} {s s' : AState} {w : World} (hw : WRel σ N0 w0 ρ s w) {t : TypeId} {b o : Nat} {v : AVal} {u : Value} (h : storeA P s t b o v = .ok s') {L : Loc} (hL : ρ b = some L) (hv : VRel σ ρ v u) :
    ∃ w', (storeVar t ⟨L.blk, L.off + o, none⟩ u).run P w = .ok () w' ∧ Post σ N0 w0 ρ s w ρ s' w' := by
  unfold storeA at h
  obtain ⟨n, hn, h⟩ := R.bind_ok' h
  obtain ⟨_, hg, h⟩ := R.bind_ok' h
  have hg := Nat.eq_of_beq_eq_true (guardR_ok hg)
  have hone : v.cells.all AVal.oneCell = true := by
    unfold storeCellsA at h
    obtain ⟨ob, hb, h⟩ := R.bind_ok' h
    split at h
    case h_2 => cases h
    obtain ⟨_, hg, h⟩ := R.bind_ok' h
    have hg := guardR_ok hg
    simp only [Bool.and_eq_true] at hg
    exact hg.2
  have hc := hv.cells hone
  obtain ⟨h1, h2⟩ := storeCells_ok (P := P) hw h hL hc
  refine ⟨_, ?_, h2⟩
  have hlen : u.cells.size = n := by rw [← hg, ← hc.length]; simp
  simp [storeVar, run_sz hn, hlen, h1]

theorem VRel.cells' {ρ : Ren} {v : AVal} {w : Value} (h : VRel σ ρ v w) : VRels σ ρ v.cells w.cells.toList := by
  cases v with
  | agg cs => simp only [VRel] at h; obtain ⟨ws, rfl, h⟩ := h; exact h
  | tup cs =>
    have h' := h
    simp only [VRel] at h
    obtain ⟨ws, rfl, _⟩ := h
    exact ⟨_, _, rfl, h', rfl⟩
  | _ => exact VRel.cells h (by simp [AVal.cells, AVal.oneCell])

end
end Go.Am
