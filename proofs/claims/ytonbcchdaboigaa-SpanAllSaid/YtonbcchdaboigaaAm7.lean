/-
  The abstract machine's operations against the model's: what makes memory.
-/
import Derived.Test.YtonbcchdaboigaaAm6
import Derived.IntWalk
namespace Go.Am
open Go Go.RowKit
set_option linter.unusedVariables false

section
variable {σ : Syms} {N0 : Nat} {w0 : World} {P : Program} {ev : Operand → R AVal} {e : Operand → Value} {ρ : Ren} {s s' : AState} {w : World} {nx : ANext}

theorem newCells_ok {cs : List AVal} {g : Bool} (hw : WRel σ N0 w0 ρ s w) (ha : s.alloc (.cells cs g) = .ok s') (hf : Fresh ρ s.next s'.next) (us : Array Value) (elem : TypeId)
    (hv : VRels σ ρ cs (us.toList.take cs.length)) : ∃ ρ', ρ' s.next = some ⟨w.heap.size, 0, us.size⟩ ∧ Post σ N0 w0 ρ s w ρ' s' (w.alloc (.cells us elem)) := by
  have hlen : cs.length ≤ us.size := by have := hv.length; simp at this; omega
  refine Post.alloc hw ha hf us.size fun ρ' he => ⟨fun j v hj => ?_, fun _ j hj => ?_, fun _ => ⟨rfl, hlen, fun i hi => ⟨?_, ?_⟩⟩⟩
  · obtain ⟨u, hu, hr⟩ := hv.get j v hj
    rw [List.getElem?_take] at hu
    split at hu
    · refine ⟨u, ?_, VRel.mono he _ _ hr⟩
      rw [Nat.zero_add, World.cell?_alloc_new]
      rw [← Array.getElem?_toList]; exact hu
    · cases hu
  · rw [Nat.zero_add]; exact World.frozen?_alloc_new _ _ _ _
  · rw [World.cell?_alloc_new]; simp only [] at hi; simp [hi]
  · exact World.frozen?_alloc_new _ _ _ _

theorem VRels.take_all {cs : List AVal} {us : List Value} (h : VRels σ ρ cs us) : VRels σ ρ cs (us.take cs.length) := by
  rw [← h.length, List.take_length]; exact h

theorem run_newVar (t : TypeId) (v : Value) (w : World) : (newVar t v).run P w = .ok ⟨w.heap.size, 0, none⟩ (w.alloc (.cells v.cells t)) := by
  simp [newVar, newRow]

theorem alloc_op {t : TypeId} (hw : WRel σ N0 w0 ρ s w) (hf : Fresh ρ s.next s'.next) (h : opAlloc P ev t s = .ok (nx, s')) :
    NSem P σ N0 w0 (do pure (.value (← Instr.alloc t true (.tuple #[])))) ρ s w nx s' := by
  unfold opAlloc at h
  obtain ⟨z, h1, h⟩ := R.bind_ok' h
  obtain ⟨s1, h2, h⟩ := R.bind_ok' h
  obtain ⟨rfl, rfl⟩ := okv_ok h
  obtain ⟨v, hv1, hv2⟩ := zeroOf_ok (σ := σ) h1
  obtain ⟨ρ', h3, h4⟩ := newCells_ok hw h2 hf v.cells t (VRels.take_all (hv2 ρ).cells')
  refine NSem.of_v ⟨_, _, ρ', ?_, ⟨_, h3, rfl⟩, h4⟩
  simp [Instr.alloc, hv1, run_newVar]

theorem box_op {t : TypeId} {x : Operand} (hw : WRel σ N0 w0 ρ s w) (hf : Fresh ρ s.next s'.next) (hx : EvOk σ ρ ev e x) (h : opBox P ev x s = .ok (nx, s')) :
    NSem P σ N0 w0 (do pure (.value (← Instr.box t (e x)))) ρ s w nx s' := by
  unfold opBox at h
  obtain ⟨v, h1, h⟩ := R.bind_ok' h
  obtain ⟨_, _, h⟩ := R.bind_ok' h
  obtain ⟨s1, h2, h⟩ := R.bind_ok' h
  obtain ⟨rfl, rfl⟩ := okv_ok h
  obtain ⟨ρ', h3, h4⟩ := newCells_ok hw h2 hf (e x).cells t (VRels.take_all (hx v h1).cells')
  refine NSem.of_v ⟨_, _, ρ', ?_, ⟨_, h3, rfl⟩, h4⟩
  simp [Instr.box, run_newVar]

/-! ### Composite values -/
def putAll (off : Nat) : List Value → Nat → Array Value → Array Value
  | [], _, cs => cs
  | c :: r, j, cs => putAll off r (j + 1) (cs.setIfInBounds (off + j) c)

theorem putAll_fold (off : Nat) : ∀ (l : List Value) (k : Nat) (cs : Array Value), (l.zipIdx k).foldl (fun cs (x : Value × Nat) => cs.setIfInBounds (off + x.2) x.1) cs = putAll off l k cs
  | [], _, _ => rfl
  | c :: r, k, cs => by simp only [List.zipIdx_cons, List.foldl_cons, putAll]; exact putAll_fold off r (k + 1) _

theorem putAll_size (off : Nat) : ∀ (l : List Value) (k : Nat) (cs : Array Value), (putAll off l k cs).size = cs.size
  | [], _, _ => rfl
  | c :: r, k, cs => by simp [putAll, putAll_size off r]

theorem putAll_get (off : Nat) : ∀ (l : List Value) (k : Nat) (cs : Array Value) (j : Nat), off + k + l.length ≤ cs.size →
    (putAll off l k cs)[j]? = if off + k ≤ j ∧ j < off + k + l.length then l[j - (off + k)]? else cs[j]?
  | [], k, cs, j, _ => by rw [if_neg (by simp)]; rfl
  | c :: r, k, cs, j, h => by
    simp only [List.length_cons] at h
    rw [putAll, putAll_get off r (k + 1) _ j (by simp; omega)]
    by_cases h1 : j = off + k
    · subst h1
      rw [if_neg (by omega), if_pos (by simp only [List.length_cons]; omega)]
      have : off + k < cs.size := by omega
      simp [this]
    · by_cases h2 : off + (k + 1) ≤ j ∧ j < off + (k + 1) + r.length
      · rw [if_pos h2, if_pos (by simp only [List.length_cons]; omega)]
        rw [show j - (off + k) = (j - (off + (k + 1))) + 1 by omega, List.getElem?_cons_succ]
      · rw [if_neg h2, if_neg (by simp only [List.length_cons]; omega)]
        rw [Array.getElem?_setIfInBounds_ne (by omega)]

theorem afill_ok {place : Nat → Option (Nat × Nat)} : ∀ {ps : List (Nat × AVal)} {qs : List (Nat × Value)} {cs r : List AVal} {us : Array Value}, VRels σ ρ cs us.toList →
    ps.map (·.1) = qs.map (·.1) → (∀ (j : Nat) (p : Nat × AVal) (q : Nat × Value), ps[j]? = some p → qs[j]? = some q → VRel σ ρ p.2 q.2) → afill place cs ps = some r → ∃ us', Instr.fill place us qs = some us' ∧ VRels σ ρ r us'.toList
  | [], [], cs, r, us, hv, _, _, h => by
    simp only [afill, Option.some.injEq] at h
    subst h
    exact ⟨us, rfl, hv⟩
  | [], q :: qs, cs, r, us, hv, hm, _, h => by simp at hm
  | p :: ps, [], cs, r, us, hv, hm, _, h => by simp at hm
  | (i, v) :: ps, (i', u) :: qs, cs, r, us, hv, hm, hr, h => by
    simp only [List.map_cons, List.cons.injEq] at hm
    obtain ⟨rfl, hm⟩ := hm
    unfold afill at h
    cases hp : place i with
    | none => rw [hp] at h; cases h
    | some os =>
      obtain ⟨off, size⟩ := os
      rw [hp] at h
      simp only [] at h
      have hvu : VRel σ ρ v u := hr 0 (i, v) (i, u) rfl rfl
      have hc := hvu.cells'
      have hcl : u.cells.size = v.cells.length := by have := hc.length; simpa using this
      have hus : us.size = cs.length := by have := hv.length; simpa using this
      cases hq : (Nat.beq v.cells.length size && Nat.ble (off + v.cells.length) cs.length) with
      | false => rw [hq] at h; cases h
      | true =>
        rw [hq, cond_true] at h
        simp only [Bool.and_eq_true, Nat.ble_eq] at hq
        have h1 := Nat.eq_of_beq_eq_true hq.1
        have hsp : VRels σ ρ (splice cs off v.cells) (putAll off u.cells.toList 0 us).toList := by
          refine VRels.of_get ?_ fun j x hj => ?_
          · rw [splice_length hq.2]; simp [putAll_size, hus]
          · rw [splice_get hq.2] at hj
            rw [Array.getElem?_toList, putAll_get off _ 0 us j (by simp; omega)]
            simp only [Nat.add_zero, Array.length_toList, hcl]
            split at hj
            · rename_i hin; rw [if_pos hin]; exact hc.get _ x hj
            · rename_i hout; rw [if_neg hout, ← Array.getElem?_toList]; exact hv.get j x hj
        obtain ⟨us', h2, h3⟩ := afill_ok hsp hm (fun j p q hp hq => hr (j + 1) p q (by simpa using hp) (by simpa using hq)) h
        refine ⟨us', ?_, h3⟩
        unfold Instr.fill
        rw [hp]
        have hcond : (decide (u.cells.size ≠ size) || decide (off + u.cells.size > us.size)) = false := by
          simp; omega
        simp only [hcond, Bool.false_eq_true, if_false]
        rw [← h2]
        congr 1
        rw [← Array.foldl_toList, Array.toList_zipIdx]
        exact putAll_fold off u.cells.toList 0 us

theorem evParts_ok : ∀ {l : List (Nat × Operand)} {ps : List (Nat × AVal)}, (∀ x ∈ l.map (·.2), EvOk σ ρ ev e x) → evParts ev l = .ok ps →
    ps.map (·.1) = (l.map fun (p : Nat × Operand) => (p.1, e p.2)).map (·.1) ∧ ∀ (j : Nat) (p : Nat × AVal) (q : Nat × Value), ps[j]? = some p → (l.map fun (p : Nat × Operand) => (p.1, e p.2))[j]? = some q → VRel σ ρ p.2 q.2
  | [], ps, _, h => by cases h; exact ⟨rfl, fun j p q hp => by simp at hp⟩
  | (i, x) :: l, ps, hx, h => by
    unfold evParts at h
    obtain ⟨v, h1, h⟩ := R.bind_ok' h
    obtain ⟨r, h2, h⟩ := R.bind_ok' h
    cases h
    obtain ⟨h3, h4⟩ := evParts_ok (fun y hy => hx y (by simp only [List.map_cons, List.mem_cons]; exact .inr hy)) h2
    refine ⟨by simp only [List.map_cons, h3], fun j p q hp hq => ?_⟩
    cases j with
    | zero =>
      simp at hp hq
      subst hp; subst hq
      exact hx x (by simp) v h1
    | succ j => exact h4 j p q (by simpa using hp) (by simpa using hq)

theorem fieldPlaces_ok : ∀ {fs : List Field} {pl : List (Nat × Nat)}, fieldPlaces P fs = .ok pl → fs.mapM (fun f => (P.info? f.type).map fun i => (f.offset, i.size)) = some pl
  | [], pl, h => by cases h; rfl
  | f :: fs, pl, h => by
    unfold fieldPlaces at h
    obtain ⟨n, h1, h⟩ := R.bind_ok' h
    obtain ⟨l, h2, h⟩ := R.bind_ok' h
    cases h
    obtain ⟨i, h3, h4⟩ := szOf_ok h1
    simp [List.mapM_cons, h3, fieldPlaces_ok h2, h4]

theorem build_op {t : TypeId} {parts : Array (Nat × Operand)} (hw : WRel σ N0 w0 ρ s w) (hx : ∀ x ∈ parts.toList.map (·.2), EvOk σ ρ ev e x) (h : opBuild P ev t parts s = .ok (nx, s')) :
    NSem P σ N0 w0 (do pure (.value (← Instr.build t (parts.map fun (i, x) => (i, e x))))) ρ s w nx s' := by
  unfold opBuild at h
  obtain ⟨z, h1, h⟩ := R.bind_ok' h
  obtain ⟨ps, h2, h⟩ := R.bind_ok' h
  obtain ⟨d, h3, h⟩ := R.bind_ok' h
  obtain ⟨it, zv, hz0, hz1, hz2⟩ := zeroOf_raw (σ := σ) h1
  obtain ⟨hm, hr⟩ := evParts_ok hx h2
  have hl : (parts.map fun (p : Nat × Operand) => (p.1, e p.2)).toList = parts.toList.map fun (p : Nat × Operand) => (p.1, e p.2) := by simp
  split at h
  · rename_i fs
    obtain ⟨pl, h4, h⟩ := R.bind_ok' h
    obtain ⟨r, h5, h⟩ := R.bind_ok' h
    obtain ⟨rfl, rfl⟩ := okv_ok h
    obtain ⟨us, h6, h7⟩ := afill_ok (hz2 ρ).cells' hm hr (R.of_ok h5)
    refine NSem.of_v (VSem.pure hw (u := .agg us) (run_build w t _ us ?_) ⟨us, rfl, h7⟩)
    unfold Program.built
    rw [hz0, und_ok h3]
    simp only [hz1, fieldPlaces_ok h4]
    rw [hl, ← h6]
    congr 1
    funext i
    simp
  · rename_i len el
    obtain ⟨n, h4, h⟩ := R.bind_ok' h
    obtain ⟨r, h5, h⟩ := R.bind_ok' h
    obtain ⟨rfl, rfl⟩ := okv_ok h
    obtain ⟨us, h6, h7⟩ := afill_ok (hz2 ρ).cells' hm hr (R.of_ok h5)
    refine NSem.of_v (VSem.pure hw (u := .agg us) (run_build w t _ us ?_) ⟨us, rfl, h7⟩)
    obtain ⟨ie, h8, h9⟩ := szOf_ok h4
    unfold Program.built
    rw [hz0, und_ok h3]
    simp only [hz1, h8, h9]
    rw [hl, ← h6]
  · cases h

theorem repl_length (n : Nat) (z : List AVal) : (repl n z).length = n * z.length := by
  induction n with
  | zero => simp [repl]
  | succ n ih => simp [repl, ih]; rw [Nat.succ_mul]; omega

theorem repl_get (z : List AVal) (hz : 0 < z.length) : ∀ (n j : Nat), j < n * z.length → (repl n z)[j]? = z[j % z.length]?
  | 0, j, h => by simp at h
  | n + 1, j, h => by
    unfold repl
    by_cases hj : j < z.length
    · rw [List.getElem?_append_left hj, Nat.mod_eq_of_lt hj]
    · rw [List.getElem?_append_right (by omega), repl_get z hz n (j - z.length) (by rw [Nat.succ_mul] at h; omega), Nat.mod_eq_sub_mod (a := j) (by omega)]

/-- A row of zeros. -/
theorem repl_ok {z : List AVal} {zs : Array Value} {n k : Nat} (hz : VRels σ ρ z zs.toList) (hk : k = n * z.length) :
    VRels σ ρ (repl n z) ((Array.range k).map (zs[· % zs.size]!)).toList := by
  have hzl : zs.size = z.length := by have := hz.length; simpa using this
  refine VRels.of_get (by simp [repl_length, hk]) fun j v hj => ?_
  have hjl : j < (repl n z).length := (List.getElem?_eq_some_iff.1 hj).1
  rw [repl_length] at hjl
  have hz0 : 0 < z.length := by
    rcases Nat.eq_zero_or_pos z.length with h0 | h0
    · rw [h0] at hjl; simp at hjl
    · exact h0
  rw [repl_get z hz0 n j hjl] at hj
  obtain ⟨u, hu, hv⟩ := hz.get _ v hj
  refine ⟨u, ?_, hv⟩
  have hlt : j % zs.size < zs.size := Nat.mod_lt _ (by omega)
  rw [← hzl, Array.getElem?_toList] at hu
  have : zs[j % zs.size]! = u := by
    rw [getElem!_pos zs _ hlt]
    have := Array.getElem?_eq_getElem hlt
    rw [this] at hu; exact Option.some.inj hu
  simp [hk ▸ hjl, this]

theorem buildSlice_op {t : TypeId} {len : Nat} {parts : Array (Nat × Operand)} (hw : WRel σ N0 w0 ρ s w) (hf : Fresh ρ s.next s'.next) (hx : ∀ x ∈ parts.toList.map (·.2), EvOk σ ρ ev e x) (h : opBuildSlice P ev t len parts s = .ok (nx, s')) :
    NSem P σ N0 w0 (do pure (.value (← Instr.buildSlice t len (parts.map fun (i, x) => (i, e x))))) ρ s w nx s' := by
  unfold opBuildSlice at h
  obtain ⟨d, h1, h⟩ := R.bind_ok' h
  split at h
  · rename_i el
    obtain ⟨n, h2, h⟩ := R.bind_ok' h
    obtain ⟨_, h3, h⟩ := R.bind_ok' h
    obtain ⟨z, h4, h⟩ := R.bind_ok' h
    obtain ⟨ps, h5, h⟩ := R.bind_ok' h
    obtain ⟨_, h6, h⟩ := R.bind_ok' h
    obtain ⟨cs, h7, h⟩ := R.bind_ok' h
    obtain ⟨_, h8, h⟩ := R.bind_ok' h
    obtain ⟨s1, h9, h⟩ := R.bind_ok' h
    obtain ⟨rfl, rfl⟩ := okv_ok h
    have h3 := Nat.le_of_ble_eq_true (guardR_ok h3)
    have h6 := Nat.eq_of_beq_eq_true (guardR_ok h6)
    obtain ⟨hm, hr⟩ := evParts_ok hx h5
    have hl : (parts.map fun (p : Nat × Operand) => (p.1, e p.2)).toList = parts.toList.map fun (p : Nat × Operand) => (p.1, e p.2) := by simp
    obtain ⟨zv, hz1, hz2⟩ := zeroOf_ok (σ := σ) h4
    have hrow : VRels σ ρ (repl len z.cells) ((Array.range (len * n)).map ((if len * n = 0 then #[] else zv.cells)[· % (if len * n = 0 then #[] else zv.cells).size]!)).toList := by
      by_cases h0 : len * n = 0
      · have : repl len z.cells = [] := List.length_eq_zero_iff.1 (by rw [repl_length, h6]; exact h0)
        rw [this, h0]; simp [VRels]
      · simp only [h0, if_false]
        exact repl_ok (hz2 ρ).cells' (by rw [h6])
    obtain ⟨us, h10, h11⟩ := afill_ok hrow hm hr (R.of_ok h7)
    obtain ⟨ρ', h12, h13⟩ := newCells_ok hw h9 hf us el (VRels.take_all h11)
    refine NSem.of_v ⟨_, _, ρ', ?_, ⟨_, h12, rfl⟩, h13⟩
    have hsz : ¬ (2 : Nat) ^ 24 < len * n := by omega
    simp only [Instr.buildSlice, Sem.run_bind, run_und h1, Result.andThen_ok, run_sz h2]
    rw [if_neg (by simpa using hsz)]
    by_cases h0 : len * n = 0
    · rw [if_pos h0] at h10 ⊢
      simp only [Sem.run_bind, Sem.run_pure, Result.andThen_ok]
      rw [hl, h10]
      simp [newRow]
    · rw [if_neg h0] at h10 ⊢
      simp only [Sem.run_bind, Sem.run_pure, Result.andThen_ok, hz1]
      rw [hl, h10]
      simp [newRow]
  · cases h

theorem makeMap_op {t : TypeId} (hw : WRel σ N0 w0 ρ s w) (hf : Fresh ρ s.next s'.next) (h : opMakeMap P ev s = .ok (nx, s')) :
    NSem P σ N0 w0 (do pure (.value (← Instr.makeMap t none))) ρ s w nx s' := by
  unfold opMakeMap at h
  obtain ⟨s1, h1, h⟩ := R.bind_ok' h
  obtain ⟨rfl, rfl⟩ := okv_ok h
  obtain ⟨ρ', h2, h3⟩ := Post.alloc (O := .map #[] 0) hw h1 hf 0 fun ρ' he => ⟨#[], by show (w.heap.push (.map #[] 0))[w.heap.size]? = _; simp, rfl⟩
  exact NSem.of_v ⟨_, _, ρ', by simp [Instr.makeMap], ⟨_, h2, rfl⟩, h3⟩

theorem makeSlice_op {t : TypeId} {l c : Operand} (hw : WRel σ N0 w0 ρ s w) (hf : Fresh ρ s.next s'.next) (hl : EvOk σ ρ ev e l) (hc : EvOk σ ρ ev e c) (h : opMakeSlice P ev t l c s = .ok (nx, s')) :
    NSem P σ N0 w0 (do pure (.value (← Instr.makeSlice t (e l) (e c)))) ρ s w nx s' := by
  unfold opMakeSlice at h
  obtain ⟨d, h1, h⟩ := R.bind_ok' h
  split at h
  · rename_i el
    obtain ⟨a, h2, h⟩ := R.bind_ok' h
    obtain ⟨⟨k, li⟩, h3, h⟩ := R.bind_ok' h
    obtain ⟨b, h4, h⟩ := R.bind_ok' h
    obtain ⟨⟨k', ci⟩, h5, h⟩ := R.bind_ok' h
    obtain ⟨z, h6, h⟩ := R.bind_ok' h
    obtain ⟨n, h7, h⟩ := R.bind_ok' h
    obtain ⟨by_, h8, h⟩ := R.bind_ok' h
    obtain ⟨_, h9, h⟩ := R.bind_ok' h
    have h9 := guardR_ok h9
    simp only [Bool.and_eq_true, Nat.ble_eq] at h9
    obtain ⟨⟨g1, g2⟩, g3⟩ := h9
    have g2 := Nat.eq_of_beq_eq_true g2
    rcases li with len | len <;> rcases ci with cap | cap <;> simp only [] at h
    · obtain ⟨_, h10, h⟩ := R.bind_ok' h
      obtain ⟨s1, h11, h⟩ := R.bind_ok' h
      obtain ⟨rfl, rfl⟩ := okv_ok h
      have h10 := guardR_ok h10
      simp only [Bool.and_eq_true, Nat.ble_eq] at h10
      obtain ⟨zv, hz1, hz2⟩ := zeroOf_ok (σ := σ) h6
      obtain ⟨ib, hi1, hi2⟩ := byOf_ok h8
      have hrow := repl_ok (n := cap) (k := cap * n) (hz2 ρ).cells' (by rw [g2])
      obtain ⟨ρ', h12, h13⟩ := newCells_ok hw h11 hf _ el (VRels.take_all hrow)
      refine NSem.of_v ⟨_, _, ρ', ?_, ⟨_, h12, rfl⟩, h13⟩
      rw [asNatLit_ok h3 (hl _ h2), asNatLit_ok h5 (hc _ h4)]
      have wl : IntKind.i64.wrap (Int.ofNat len) = len := IntWalk.i64_in _ (by simp only [Int.ofNat_eq_natCast]; omega)
      have wc : IntKind.i64.wrap (Int.ofNat cap) = cap := IntWalk.i64_in _ (by simp only [Int.ofNat_eq_natCast]; omega)
      have hprod : (by_ : Int) * cap ≤ 1000000000000 := by
        rw [← Int.natCast_mul]
        have : by_ * cap ≤ 1000000000000 := Nat.mul_le_mul g1 h10.2
        omega
      have c1 : (decide ((cap : Int) < 0) || decide (((ib.bytes : Nat) : Int) * (cap : Int) > 2 ^ 48) || decide ((len : Int) < 0) || decide ((len : Int) > (cap : Int))) = false := by
        rw [hi2]
        simp only [Bool.or_eq_false_iff, decide_eq_false_iff_not]
        refine ⟨⟨⟨?_, ?_⟩, ?_⟩, ?_⟩ <;> omega
      simp only [Instr.makeSlice, Sem.run_bind, run_und h1, Result.andThen_ok, asInt, asIntOf, Sem.run_pure, run_info hi1, wl, wc]
      rw [if_neg (by simpa using c1)]
      simp only [Sem.run_bind, run_askRoom, Result.andThen_ok, run_sz h7, Int.toNat_natCast]
      by_cases h0 : cap * n = 0
      · rw [if_pos h0]
        have e0 : ∀ f : Nat → Value, (Array.range (cap * n)).map f = #[] := fun f => Array.eq_empty_of_size_eq_zero (by rw [Array.size_map, Array.size_range, h0])
        simp [newRow, e0]
      · rw [if_neg h0]
        simp [newRow, hz1]
    all_goals cases h
  · cases h

end
end Go.Am
