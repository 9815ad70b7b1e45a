/-
  The abstract machine's operations against the model's: the built-in functions.
-/
import Derived.Test.YtonbcchdaboigaaAm9
namespace Go.Am
open Go Go.RowKit
set_option linter.unusedVariables false

section
variable {σ : Syms} {N0 : Nat} {w0 : World} {P : Program} {ev : Operand → R AVal} {e : Operand → Value} {ρ : Ren} {s s' : AState} {w : World} {nx : ANext}

/-- An abstract answer and state beside a run that hands back a value. -/
def BSem (P : Program) (σ : Syms) (N0 : Nat) (w0 : World) (sem : Sem Value) (ρ : Ren) (s : AState) (w : World) (r : AVal × AState) : Prop := VSem P σ N0 w0 sem ρ s w r.1 r.2

theorem WRel.of_heap {w' : World} (h : WRel σ N0 w0 ρ s w) (hh : ∀ c : Nat, w'.heap[c]? = w.heap[c]?) (hs : w'.heap.size = w.heap.size) (ho : w'.os = w.os) (ht : w'.tape = w.tape) (hp : w'.output = w.output) : WRel σ N0 w0 ρ s w' :=
  ⟨h.base.trans ⟨ho, ht, hp, by omega, fun k _ => hh k⟩, by have := h.n0; omega, h.bnd, h.inj, h.dom, fun b L e => by rw [hs]; exact h.rng b L e, fun b o hb L hL => (h.heap b o hb L hL).of_block (hh _)⟩

theorem Post.of_heap {w' : World} (h : WRel σ N0 w0 ρ s w) (hh : ∀ c : Nat, w'.heap[c]? = w.heap[c]?) (hs : w'.heap.size = w.heap.size) (ho : w'.os = w.os) (ht : w'.tape = w.tape) (hp : w'.output = w.output) : Post σ N0 w0 ρ s w ρ s w' :=
  ⟨Ext.refl _, fun _ _ e => .inl e, Nat.le_refl _, rfl, Nat.le_refl _, fun _ _ _ => rfl, fun _ _ h => h, h.of_heap hh hs ho ht hp, fun c _ _ => hh c, by omega⟩

/-! ### append -/
theorem lenOfA_ok {a : AVal} {n : Nat} {u : Value} (h : lenOfA a = .ok n) (hv : VRel σ ρ a u) : (∃ b k, u = .slice b n k) ∧ ((∃ b o c, a = .slice b o n c) ∨ (n = 0 ∧ ∃ c, a = .lit (.slice none 0 c))) := by
  unfold lenOfA at h
  split at h
  · rename_i b o m c
    cases h
    refine ⟨?_, .inl ⟨_, _, _, rfl⟩⟩
    cases c with
    | known k => obtain ⟨L, _, h⟩ := hv; exact ⟨_, _, h⟩
    | grown g => obtain ⟨L, k, _, h, _⟩ := hv; exact ⟨_, _, h⟩
  · rename_i m c
    cases hq : Nat.beq m 0 with
    | false => rw [hq] at h; cases h
    | true =>
      rw [hq, cond_true] at h
      cases h
      have := Nat.eq_of_beq_eq_true hq
      subst this
      exact ⟨⟨_, _, hv.1⟩, .inr ⟨rfl, _, rfl⟩⟩
  · cases h

theorem sliceCells_ok {esz n : Nat} {a : AVal} {l : List AVal} {u : Value} (hw : WRel σ N0 w0 ρ s w) (h : sliceCells s esz n a = .ok l) (hv : VRel σ ρ a u) :
    ∃ us : List Value, (∀ d, (Builtin.firstCells esz n u).run P { w with drawn := d } = .ok us.toArray { w with drawn := d }) ∧ VRels σ ρ l us ∧ (∀ b o k c, a = .slice b o k c → us.length = n * esz) ∧ (∀ k c, a = .lit (.slice none k c) → us = []) := by
  unfold sliceCells at h
  split at h
  · rename_i b o m c
    replace h := R.bind_ok' h
    obtain ⟨cs, h1, h⟩ := h
    obtain ⟨g, hb⟩ := getCells_ok h1
    have : ∃ L k, ρ b = some L ∧ u = .slice (some ⟨L.blk, L.off + o, none⟩) m k := by
      cases c with
      | known k => obtain ⟨L, h1, h2⟩ := hv; exact ⟨L, k, h1, h2⟩
      | grown g => obtain ⟨L, k, h1, h2, _⟩ := hv; exact ⟨L, k, h1, h2⟩
    obtain ⟨L, k, hL, rfl⟩ := this
    obtain ⟨us, h2, h3, h4⟩ := cells_of hw hb hL o (n * esz) h
    refine ⟨us, fun d => ?_, h3, fun _ _ _ _ _ => h2, fun _ _ he => (by cases he)⟩
    have := run_loadCells_list (P := P) { w with drawn := d } ⟨L.blk, L.off + o, none⟩ us (fun j v hj => by rw [Addr.add_mid]; exact h4 j v hj)
    rw [h2] at this
    exact this
  · cases h
    obtain ⟨rfl, _⟩ := hv
    exact ⟨[], fun _ => rfl, rfl, fun _ _ _ _ he => (by cases he), fun _ _ _ => rfl⟩
  · cases h

theorem nextcap_le {n c : Nat} (hn : n ≤ 1000000) (hc : c < n) : Builtin.nextslicecap n c ≤ 4000000 := by
  unfold Builtin.nextslicecap
  split
  · omega
  · split
    · omega
    · have step : ∀ (r c b : Nat), c ≤ b → Builtin.growBy n r c ≤ (match r with | 0 => b | 1 => b + (b + 768) / 4 | _ => Builtin.growBy n r c) := by
        intro r c b h
        match r with
        | 0 => simpa [Builtin.growBy] using h
        | 1 => simp only [Builtin.growBy]; split <;> omega
        | r + 2 => simp
      have one : ∀ (r c : Nat), Builtin.growBy n (r + 1) c = c ∨ Builtin.growBy n (r + 1) c = Builtin.growBy n r (c + (c + 768) / 4) := by
        intro r c
        rw [Builtin.growBy]
        split
        · exact .inl rfl
        · exact .inr rfl
      rcases one 3 c with h | h <;> rw [h]
      · omega
      rcases one 2 (c + (c + 768) / 4) with h | h <;> rw [h]
      · omega
      rcases one 1 (c + (c + 768) / 4 + (c + (c + 768) / 4 + 768) / 4) with h | h <;> rw [h]
      · omega
      rcases one 0 (c + (c + 768) / 4 + (c + (c + 768) / 4 + 768) / 4 + (c + (c + 768) / 4 + (c + (c + 768) / 4 + 768) / 4 + 768) / 4) with h | h <;> rw [h]
      · omega
      · simp only [Builtin.growBy]; omega

/-- The model's append where the array has room. -/
theorem run_append_in {sT yT el : TypeId} {tp d : TypeId} {esz n m k : Nat} {a : Addr} {y : Value} {us : List Value} {w' : World} (h1 : P.underlying sT = some (.slice el)) (h2 : P.underlying yT = some (.slice d)) (hsz : (sizeOf el).run P w = .ok esz w)
    (hm : (Builtin.lenOf y).run P w = .ok m w) (hk : n + m ≤ k) (hnew : (Builtin.firstCells esz m y).run P w = .ok us.toArray w) (hst : (storeCells (a.add (n * esz)) us).run P w = .ok () w') :
    (Builtin.append_ #[sT, yT] tp #[.slice (some a) n k, y]).run P w = .ok (.slice (some a) (n + m) k) w' := by
  simp only [Builtin.append_, List.getElem?_toArray, List.getElem?_cons_zero, List.getElem?_cons_succ]
  simp [run_underlying h1, run_underlying h2, hsz, hm, hk, hnew, hst]

/-- The model's append where the array has no room. -/
theorem run_append_new {sT yT el tp d : TypeId} {esz n m k : Nat} {b : Option Addr} {y zv : Value} {us vs : List Value} {i : TypeInfo} (h1 : P.underlying sT = some (.slice el)) (h2 : P.underlying yT = some (.slice d)) (hi : P.info? el = some i) (hz : i.size = esz) (hby : i.bytes ≤ 1000000)
    (hzero : i.zero = some zv) (hm : (Builtin.lenOf y).run P w = .ok m w) (hk : k < n + m) (hlim : n + m ≤ 1000000) (hold : ∀ d, (Builtin.firstCells esz n (.slice b n k)).run P { w with drawn := d } = .ok us.toArray { w with drawn := d }) (hnew : ∀ d, (Builtin.firstCells esz m y).run P { w with drawn := d } = .ok vs.toArray { w with drawn := d }) :
    ∃ (dr cap : Nat), n + m ≤ cap ∧ (Builtin.append_ #[sT, yT] tp #[.slice b n k, y]).run P w =
      .ok (.slice (some ⟨w.heap.size, 0, none⟩) (n + m) cap) (({ w with drawn := dr } : World).alloc (.cells (us.toArray ++ vs.toArray ++ Builtin.zeroCells zv.cells (cap - (n + m))) el)) := by
  have hnc := nextcap_le hlim hk
  have hcap : ¬ Builtin.nextslicecap (n + m) k * i.bytes > 2 ^ 48 := by
    have : Builtin.nextslicecap (n + m) k * i.bytes ≤ 4000000 * 1000000 := Nat.mul_le_mul hnc hby
    omega
  have hsz : ∀ w, (sizeOf el).run P w = .ok esz w := fun w => by simp [sizeOf, typeInfo, hi, hz]
  have hbig : ¬ (((n + m : Nat) : Int) > IntKind.i64.max ∧ i.bytes = 0) := by
    have : IntKind.i64.max = 9223372036854775807 := rfl
    omega
  let cap := n + m + (w.tape w.drawn (.appendCap (n + m) k el)) % (2 ^ 63 - (n + m))
  refine ⟨w.drawn + 1, cap, Nat.le_add_right _ _, ?_⟩
  have hroom : ¬ (n + m ≤ k) := by omega
  simp only [Builtin.append_, List.getElem?_toArray, List.getElem?_cons_zero, List.getElem?_cons_succ]
  simp only [Sem.run_bind, run_underlying h1, run_underlying h2, Result.andThen_ok, hsz, Sem.run_pure]
  simp only [Bool.false_eq_true, if_false, Sem.run_bind, hm, Result.andThen_ok, if_neg hroom]
  simp only [run_info hi, Result.andThen_ok, false_or]
  rw [if_neg hbig]
  simp only [Sem.run_bind, run_info hi, Result.andThen_ok]
  rw [if_neg hcap]
  simp only [Sem.run_bind, run_choose, Question.forced, Bool.false_eq_true, if_false, Question.cut, Result.andThen_ok, run_info hi, run_askRoom]
  rw [hold, Result.andThen_ok]
  simp only [Bool.not_false, if_true, hnew, Result.andThen_ok]
  have hzr : ∀ w, (zeroValue el).run P w = .ok zv w := fun w => by simp [zeroValue, run_info hi, hzero]
  simp only [hzr, Result.andThen_ok, newRow, Sem.run_bind, run_newObj, Sem.run_pure]
  rfl

theorem zeroCells_size (z : Array Value) (n : Nat) : (Builtin.zeroCells z n).size = n * z.size := by simp [Builtin.zeroCells]

/-- What the types tell at an append. -/
structure AppT (P : Program) (σ : Syms) (sT yT el d : TypeId) (esz : Nat) (i : TypeInfo) (zv : Value) : Prop where
  hs : P.underlying sT = some (.slice el)
  hy : P.underlying yT = some (.slice d)
  hi : P.info? el = some i
  hz : i.size = esz
  hb : i.bytes ≤ 1000000
  hzero : i.zero = some zv
  hzs : zv.cells.size = esz
  pos : 1 ≤ esz

theorem appendNew_ok {sT yT el d tp : TypeId} {esz n m k : Nat} {i : TypeInfo} {zv : Value} (T : AppT P σ sT yT el d esz i zv) {b : Option Addr} {y : Value} {us vs : List Value} {cs : List AVal} {r : AVal × AState}
    (hw : WRel σ N0 w0 ρ s w) (hf : Fresh ρ s.next r.2.next) (h : appendNew s esz n m cs = .ok r) (hm : (Builtin.lenOf y).run P w = .ok m w) (hk : k < n + m)
    (hold : ∀ d, (Builtin.firstCells esz n (.slice b n k)).run P { w with drawn := d } = .ok us.toArray { w with drawn := d }) (hnew : ∀ d, (Builtin.firstCells esz m y).run P { w with drawn := d } = .ok vs.toArray { w with drawn := d })
    (hu : us.length = n * esz) (hv : vs.length = m * esz) (hr : VRels σ ρ cs (us ++ vs)) : BSem P σ N0 w0 (Builtin.append_ #[sT, yT] tp #[.slice b n k, y]) ρ s w r := by
  unfold appendNew at h
  simp only [allocS_eq] at h
  replace h := R.bind_ok' h
  obtain ⟨_, h1, h⟩ := h
  replace h := R.bind_ok' h
  obtain ⟨s1, h2, h⟩ := h
  cases h
  have h1 := Nat.le_of_ble_eq_true (guardR_ok h1)
  obtain ⟨dr, cap, hcap, hrun⟩ := run_append_new (P := P) (w := w) (tp := tp) T.hs T.hy T.hi T.hz T.hb T.hzero hm hk h1 hold hnew
  have hwd := hw.drawn dr
  obtain ⟨ρ', h3, h4⟩ := newCells_ok hwd h2 hf (us.toArray ++ vs.toArray ++ Builtin.zeroCells zv.cells (cap - (n + m))) el (by
    have : (us.toArray ++ vs.toArray ++ Builtin.zeroCells zv.cells (cap - (n + m))).toList.take cs.length = us ++ vs := by
      rw [← hr.length]
      simp only [Array.toList_append]
      exact List.take_left' rfl
    rw [this]; exact hr)
  refine ⟨_, _, ρ', hrun, ⟨_, cap, h3, rfl, hcap, rfl, ?_⟩, h4.drawn⟩
  simp only [Array.size_append, List.size_toArray, zeroCells_size, T.hzs, hu, hv]
  rw [← Nat.add_mul, ← Nat.add_mul, Nat.zero_add]
  congr 1
  omega

theorem appendIn_ok {sT yT el d tp : TypeId} {esz n m k o b : Nat} {i : TypeInfo} {zv : Value} (T : AppT P σ sT yT el d esz i zv) {y : Value} {vs : List Value} {new : List AVal} {cap : ACap} {r : AVal × AState} {L : Loc}
    (hw : WRel σ N0 w0 ρ s w) (h : appendIn s b o n m esz cap new = .ok r) (hL : ρ b = some L) (hm : (Builtin.lenOf y).run P w = .ok m w) (hk : n + m ≤ k) (hnew : (Builtin.firstCells esz m y).run P w = .ok vs.toArray w) (hr : VRels σ ρ new vs)
    (hcap : VRel σ ρ (.slice b o (n + m) cap) (.slice (some ⟨L.blk, L.off + o, none⟩) (n + m) k)) : BSem P σ N0 w0 (Builtin.append_ #[sT, yT] tp #[.slice (some ⟨L.blk, L.off + o, none⟩) n k, y]) ρ s w r := by
  unfold appendIn at h
  replace h := R.bind_ok' h
  obtain ⟨s1, h2, h⟩ := h
  cases h
  obtain ⟨h3, h4⟩ := storeCells_ok (P := P) hw h2 hL hr
  have hsz : (sizeOf el).run P w = .ok esz w := by simp [sizeOf, typeInfo, T.hi, T.hz]
  refine ⟨_, _, ρ, run_append_in T.hs T.hy hsz hm hk hnew (a := ⟨L.blk, L.off + o, none⟩) ?_, hcap, h4⟩
  rw [Addr.add_mid, Nat.add_assoc]
  exact h3

/-- A block is let go of. -/
theorem Post.kill {b : Nat} (hw : WRel σ N0 w0 ρ s w) (hb : b ≤ lim) (h : s.put b none = .ok s') : Post σ N0 w0 ρ s w ρ s' w := by
  obtain ⟨e1, e2, e3, e4⟩ := put_ok hb h
  have live : ∀ a, s'.heap.get a ≠ none → s.heap.get a ≠ none := fun a ha => by
    rw [e4] at ha
    by_cases hq : a = b
    · rw [if_pos hq] at ha; exact absurd rfl ha
    · rw [if_neg hq] at ha; exact ha
  refine ⟨Ext.refl _, fun _ _ e => .inl e, by omega, e3, by omega, fun a h1 h2 => by rw [e4, if_neg (by omega)], fun a _ => live a, ?_, fun _ _ _ => rfl, Nat.le_refl _⟩
  have hbnd := hw.bnd
  refine ⟨hw.base, hw.n0, by omega, fun a a' M M' hr hr' ha ha' => ?_, fun a ha => by rw [e1]; exact hw.dom a (live a ha), fun a M ea => by rw [e3]; exact hw.rng a M ea, fun a o ha M ea => ?_⟩
  · rw [e3] at hr hr'
    exact hw.inj a a' M M' hr hr' (live a ha) (live a' ha')
  · rw [e3]
    rw [e4] at ha
    by_cases hq : a = b
    · rw [if_pos hq] at ha; cases ha
    · rw [if_neg hq] at ha; exact hw.heap a o ha M ea

/-- A block that grows in place, under a new number. -/
theorem Post.moved {b : Nat} {cs cs' : List AVal} {g : Bool} {s1 : AState} {L : Loc} {us : List Value} {o : Nat} (hw : WRel σ N0 w0 ρ s w) (hro : s.ro ≤ b) (hb : s.heap.get b = some (.cells cs g)) (hL : ρ b = some L) (h : s.put b none = .ok s1) (ha : s1.alloc (.cells cs' true) = .ok s')
    (hf : Fresh ρ s.next s'.next) (ho : ∀ ρ', Ext ρ ρ' → ORel σ ρ' L true (w.setCells L.blk o us) (.cells cs' true)) :
    ∃ ρ', ρ' s.next = some L ∧ Post σ N0 w0 ρ s w ρ' s' (w.setCells L.blk o us) := by
  have hbn := hw.dom b (by rw [hb]; simp)
  have hbnd := hw.bnd
  obtain ⟨e1, e2, e3, e4⟩ := put_ok (by omega) h
  obtain ⟨⟨f1, f1'⟩, f2, f3, f4⟩ := alloc_ok ha
  rw [e1] at f1 f1' f4
  have hfn : ρ s.next = none := hf s.next (Nat.le_refl _) (by omega)
  let ρ' : Ren := fun a => if a = s.next then some L else ρ a
  have hρ : ρ' s.next = some L := by simp [ρ']
  have hne : ∀ a, a ≠ s.next → ρ' a = ρ a := fun a hq => by simp [ρ', hq]
  have ext : Ext ρ ρ' := fun a M ea => by
    by_cases hq : a = s.next
    · subst hq; rw [hfn] at ea; cases ea
    · rw [hne a hq]; exact ea
  have get' : ∀ a, s'.heap.get a = if a = s.next then some (.cells cs' true) else if a = b then none else s.heap.get a := fun a => by rw [f4, e4]
  have live : ∀ a, a ≠ s.next → s'.heap.get a ≠ none → a ≠ b ∧ s.heap.get a ≠ none := fun a hq hl => by
    rw [get', if_neg hq] at hl
    by_cases hq' : a = b
    · rw [if_pos hq'] at hl; exact absurd rfl hl
    · rw [if_neg hq'] at hl; exact ⟨hq', hl⟩
  have hblk := hw.rng b L hL
  have hframe : ∀ c, c ≠ L.blk → (w.setCells L.blk o us).heap[c]? = w.heap[c]? := fun c hc => heap_setCells us w _ c hc
  have hsize : (w.setCells L.blk o us).heap.size = w.heap.size := size_setCells us w _
  refine ⟨ρ', hρ, ext, fun a M ea => ?_, by omega, by omega, by omega, fun a h1 h2 => ?_, fun a h1 hl => (live a (by omega) hl).2, ?_, fun c hc H => ?_, by omega⟩
  · by_cases hq : a = s.next
    · subst hq
      rw [hρ] at ea
      cases ea
      exact .inr ⟨Nat.le_refl _, by omega, .inr ⟨b, L, hbn, by omega, hL, rfl⟩⟩
    · rw [hne a hq] at ea; exact .inl ea
  · rw [get', if_neg (by omega), if_neg (by omega)]
  · refine ⟨hw.base.trans (Below.setCells' (b := L.blk) (o := 0) (w := w) us w _ (hblk.2.1 hro)), by have := hw.n0; omega, by omega, fun a a' M M' hr hr' hl hl' ea ea' hM => ?_, fun a hl => ?_, fun a M ea => ?_, fun a x hx M ea => ?_⟩
    · rw [f3, e3] at hr hr'
      by_cases h1 : a = s.next
      · by_cases h2 : a' = s.next
        · omega
        · exfalso
          subst h1
          rw [hρ] at ea; cases ea
          rw [hne a' h2] at ea'
          obtain ⟨g1, g2⟩ := live a' h2 hl'
          exact g1 (hw.inj a' b M' L hr' hro g2 (by rw [hb]; simp) ea' hL hM.symm)
      · by_cases h2 : a' = s.next
        · exfalso
          subst h2
          rw [hρ] at ea'; cases ea'
          rw [hne a h1] at ea
          obtain ⟨g1, g2⟩ := live a h1 hl
          exact g1 (hw.inj a b M L hr hro g2 (by rw [hb]; simp) ea hL hM)
        · rw [hne a h1] at ea
          rw [hne a' h2] at ea'
          exact hw.inj a a' M M' hr hr' (live a h1 hl).2 (live a' h2 hl').2 ea ea' hM
    · by_cases h1 : a = s.next
      · omega
      · have := hw.dom a (live a h1 hl).2; omega
    · rw [hsize, f3, e3]
      by_cases h1 : a = s.next
      · subst h1
        rw [hρ] at ea; cases ea
        exact ⟨hblk.1, fun _ => hblk.2.1 hro, fun h2 => by omega⟩
      · rw [hne a h1] at ea; exact hw.rng a M ea
    · rw [f3, e3]
      by_cases h1 : a = s.next
      · subst h1
        rw [hρ] at ea; cases ea
        rw [get', if_pos rfl] at hx
        cases hx
        have : s.ro ≤ s.next := hbnd.1
        simpa [this] using ho ρ' ext
      · rw [hne a h1] at ea
        rw [get', if_neg h1] at hx
        by_cases h2 : a = b
        · rw [if_pos h2] at hx; cases hx
        · rw [if_neg h2] at hx
          refine ((hw.heap a x hx M ea).mono ext).of_block (hframe _ fun hc => ?_)
          by_cases hra : s.ro ≤ a
          · exact h2 (hw.inj a b M L hra hro (by rw [hx]; simp) (by rw [hb]; simp) ea hL hc)
          · have h3 := (hw.rng a M ea).2.2 (by omega)
            have h4 := hblk.2.1 hro
            omega
  · by_cases hc' : c = L.blk
    · exact absurd hc'.symm (H b L hbn (by omega) hL)
    · exact hframe c hc'

theorem run_lenOf {b : Option Addr} {n k : Nat} : (Builtin.lenOf (.slice b n k)).run P w = .ok n w := rfl

theorem appendA_ok {sT yT tp : TypeId} {x y : AVal} {r : AVal × AState} {u v : Value} (hw : WRel σ N0 w0 ρ s w) (hf : Fresh ρ s.next r.2.next) (h : appendA P s sT yT x y = .ok r) (hu : VRel σ ρ x u) (hv : VRel σ ρ y v) :
    BSem P σ N0 w0 (Builtin.append_ #[sT, yT] tp #[u, v]) ρ s w r := by
  unfold appendA at h
  replace h := R.bind_ok' h
  obtain ⟨d1, h1, h⟩ := h
  replace h := R.bind_ok' h
  obtain ⟨d2, h2, h⟩ := h
  split at h
  case h_2 => cases h
  rename_i el d
  replace h := R.bind_ok' h
  obtain ⟨esz, h3, h⟩ := h
  replace h := R.bind_ok' h
  obtain ⟨by_, h4, h⟩ := h
  replace h := R.bind_ok' h
  obtain ⟨z, h5, h⟩ := h
  replace h := R.bind_ok' h
  obtain ⟨_, h6, h⟩ := h
  replace h := R.bind_ok' h
  obtain ⟨m, h7, h⟩ := h
  replace h := R.bind_ok' h
  obtain ⟨new, h8, h⟩ := h
  replace h := R.bind_ok' h
  obtain ⟨_, h9, h⟩ := h
  have h6 := guardR_ok h6
  simp only [Bool.and_eq_true, Nat.ble_eq] at h6
  obtain ⟨⟨g1, g2⟩, g3⟩ := h6
  have g3 := Nat.eq_of_beq_eq_true g3
  obtain ⟨i, zv, hi1, hi2, hz⟩ := zeroOf_raw (σ := σ) h5
  obtain ⟨i', hi3, hi4⟩ := szOf_ok h3
  rw [hi1] at hi3; cases hi3
  obtain ⟨i', hi5, hi6⟩ := byOf_ok h4
  rw [hi1] at hi5; cases hi5
  have T : AppT P σ sT yT el d esz i zv := ⟨und_ok h1, und_ok h2, hi1, hi4, by omega, hi2, by have := (hz ρ).cells'.length; simp at this; omega, g1⟩
  obtain ⟨⟨yb, yk, rfl⟩, hy⟩ := lenOfA_ok h7 hv
  obtain ⟨vs, hvs1, hvs2, hvs3, hvs4⟩ := sliceCells_ok (P := P) hw h8 hv
  have hvl : vs.length = m * esz := by
    rcases hy with ⟨b, o, c, rfl⟩ | ⟨rfl, c, rfl⟩
    · exact hvs3 _ _ _ _ rfl
    · rw [hvs4 _ _ rfl]; simp
  have hm : ∀ d, (Builtin.lenOf (.slice yb m yk)).run P { w with drawn := d } = .ok m { w with drawn := d } := fun _ => rfl
  have hsz : (sizeOf el).run P w = .ok esz w := run_sz h3 w
  unfold appendTo at h
  split at h
  · rename_i n c
    replace h := R.bind_ok' h
    obtain ⟨_, h10, h⟩ := h
    have h10 := guardR_ok h10
    simp only [Bool.and_eq_true] at h10
    have hn := Nat.eq_of_beq_eq_true h10.1
    have hc := Nat.eq_of_beq_eq_true h10.2
    subst hn; subst hc
    obtain ⟨rfl, _⟩ := hu
    cases hq : Nat.beq m 0 with
    | true =>
      rw [hq, cond_true] at h
      cases h
      have := Nat.eq_of_beq_eq_true hq
      subst this
      refine VSem.pure hw (u := .slice none 0 0) ?_ ⟨rfl, rfl⟩
      have hnew := hvs1 w.drawn
      simp only [Builtin.append_, List.getElem?_toArray, List.getElem?_cons_zero, List.getElem?_cons_succ]
      have hnew' : (Builtin.firstCells esz 0 (.slice yb 0 yk)).run P w = .ok vs.toArray w := hnew
      simp [run_underlying T.hs, run_underlying T.hy, hsz, Builtin.lenOf, hnew']
    | false =>
      rw [hq, cond_false] at h
      have hm0 : m ≠ 0 := fun e => by subst e; simp at hq
      exact appendNew_ok T (us := []) hw hf h (hm w.drawn) (by omega) (fun _ => rfl) hvs1 (by simp) hvl hvs2
  · rename_i b o n c
    obtain ⟨L, hL, rfl⟩ := hu
    cases hq : Nat.ble (n + m) c with
    | true =>
      rw [hq, cond_true] at h
      have hle := Nat.le_of_ble_eq_true hq
      cases hq2 : Nat.beq m 0 with
      | true =>
        rw [hq2, cond_true] at h
        cases h
        have := Nat.eq_of_beq_eq_true hq2
        subst this
        have hv0 : vs = [] := List.length_eq_zero_iff.1 (by rw [hvl]; simp)
        subst hv0
        refine VSem.pure hw (u := .slice (some ⟨L.blk, L.off + o, none⟩) n c) ?_ ⟨L, hL, rfl⟩
        exact run_append_in T.hs T.hy hsz (hm w.drawn) hle (hvs1 w.drawn) rfl
      | false =>
        rw [hq2, cond_false] at h
        exact appendIn_ok T hw h hL (hm w.drawn) hle (hvs1 w.drawn) hvs2 ⟨L, hL, rfl⟩
    | false =>
      rw [hq, cond_false] at h
      have hlt : c < n + m := by
        rcases Nat.lt_or_ge c (n + m) with h' | h'
        · exact h'
        · rw [Nat.ble_eq_true_of_le h'] at hq; cases hq
      replace h := R.bind_ok' h
      obtain ⟨cs, h10, h⟩ := h
      replace h := R.bind_ok' h
      obtain ⟨old, h11, h⟩ := h
      obtain ⟨us, k1, k2, k3, _⟩ := sliceCells_ok (P := P) (esz := esz) (n := n) (a := .slice b o n (.known c)) (l := old) hw (by show (do takeN (← getCells s b) o (n * esz)) = _; rw [h10]; exact h11) ⟨L, hL, rfl⟩
      exact appendNew_ok T hw hf h (hm w.drawn) hlt k1 hvs1 (k3 _ _ _ _ rfl) hvl (k2.append hvs2)
  · rename_i b o n g
    replace h := R.bind_ok' h
    obtain ⟨_, h10, h⟩ := h
    have h10 := Nat.eq_of_beq_eq_true (guardR_ok h10)
    subst h10
    replace h := R.bind_ok' h
    obtain ⟨ob, h11, h⟩ := h
    have hb := get_ok h11
    split at h
    case h_2 => cases h
    rename_i cs g'
    obtain ⟨L, k, hL, rfl, hk1, hk2, hk3⟩ := hu
    unfold appendGrown at h
    replace h := R.bind_ok' h
    obtain ⟨_, h12, h⟩ := h
    have h12 := guardR_ok h12
    subst h12
    obtain ⟨o1, o2, o3⟩ := hw.heap _ _ hb L hL
    obtain ⟨o4, o5, o6⟩ := o3 rfl
    cases hq : Nat.ble (o + (n + m) * g) cs.length with
    | true =>
      rw [hq, cond_true] at h
      have hle := Nat.le_of_ble_eq_true hq
      have hnk : n + m ≤ k := by
        have : (n + m) * g ≤ k * g := by omega
        exact Nat.le_of_mul_le_mul_right this (by omega)
      exact appendIn_ok T hw h hL (hm w.drawn) hnk (hvs1 w.drawn) hvs2 ⟨L, k, hL, rfl, hnk, hk2, hk3⟩
    | false =>
      rw [hq, cond_false] at h
      replace h := R.bind_ok' h
      obtain ⟨_, h13, h⟩ := h
      have h13 := guardR_ok h13
      simp only [Bool.and_eq_true, Nat.ble_eq] at h13
      obtain ⟨⟨j1, j2⟩, j3⟩ := h13
      have j1 := Nat.eq_of_beq_eq_true j1
      subst j1
      replace h := R.bind_ok' h
      obtain ⟨s1, h14, h⟩ := h
      have hbl : b ≤ lim := by have := hw.dom b (by rw [hb]; simp); have := hw.bnd; omega
      have hkill := Post.kill hw hbl h14
      have hold : VRels σ ρ (cs.take (n * g)) (((List.range (n * g)).map fun j => (w.cell? ⟨L.blk, L.off + j, none⟩).getD undef)) := by
        refine VRels.of_get (by simp; omega) fun j v hj => ?_
        rw [List.getElem?_take] at hj
        split at hj
        · rename_i hjn
          obtain ⟨u, hu, hr⟩ := o1 j v hj
          exact ⟨u, by simp [hjn, hu], hr⟩
        · cases hj
      by_cases hroom : n + m ≤ k
      · -- in place
        unfold appendNew at h
        simp only [allocS_eq] at h
        replace h := R.bind_ok' h
        obtain ⟨_, h15, h⟩ := h
        replace h := R.bind_ok' h
        obtain ⟨s2, h16, h⟩ := h
        cases h
        have hvone := hvs2.oneCell (guardR_ok h9)
        have hsize : (n + m) * g ≤ L.size := by
          have : (n + m) * g ≤ k * g := Nat.mul_le_mul_right g hroom
          omega
        rw [Nat.add_mul] at hsize
        have hcell : ∀ j, j < vs.length → (w.cell? ⟨L.blk, n * g + j, none⟩).isSome = true := fun j hj => (o6 _ (by omega)).1
        have hfz : ∀ j, j < vs.length → w.frozen? ⟨L.blk, n * g + j, none⟩ = false := fun j hj => (o6 _ (by omega)).2
        have hst := run_storeCells_cells (P := P) L.blk (n * g) vs 0 w (fun j hj => by simpa using hcell j hj) (fun j hj => by simpa using hfz j hj) hvone
        simp only [Nat.add_zero] at hst
        have e1 := (put_ok hbl h14).1
        obtain ⟨ρ', q1, q2⟩ := Post.moved (us := vs) (o := n * g) hw j2 hb hL h14 h16 (by simpa using hf) fun ρ' he => by
          refine ⟨fun j v hj => ?_, fun _ j hj => ?_, fun _ => ⟨o4, ?_, fun i hi => ?_⟩⟩
          · rw [o4, Nat.zero_add]
            rw [List.getElem?_append] at hj
            have htl : (cs.take (n * g)).length = n * g := by simp; omega
            rw [htl] at hj
            split at hj
            · rename_i hjn
              rw [List.getElem?_take, if_pos hjn] at hj
              obtain ⟨u, hu, hr⟩ := o1 j v hj
              refine ⟨u, ?_, VRel.mono he _ _ hr⟩
              rw [World.cell?_setCells_out L.blk vs (n * g) w _ (fun _ _ => by simp only []; omega)]
              rw [o4, Nat.zero_add] at hu
              exact hu
            · rename_i hjn
              obtain ⟨u, hu, hr⟩ := hvs2.get _ v hj
              have hju : j - n * g < vs.length := (List.getElem?_eq_some_iff.1 hu).1
              refine ⟨u, ?_, VRel.mono he _ _ hr⟩
              have := World.cell?_setCells_in L.blk vs (n * g) w hcell (j - n * g) hju
              rw [show n * g + (j - n * g) = j by omega] at this
              rw [this]
              simpa [hju] using hu
          · rw [o4, Nat.zero_add, World.frozen?_setCells]
            have hnl := hvs2.length
            simp only [List.length_append, List.length_take] at hj
            exact (o6 j (by omega)).2
          · have hnl := hvs2.length
            simp only [List.length_append, List.length_take]
            omega
          · rw [World.frozen?_setCells]
            refine ⟨?_, (o6 i hi).2⟩
            by_cases hin : n * g ≤ i ∧ i < n * g + vs.length
            · have := World.cell?_setCells_in L.blk vs (n * g) w hcell (i - n * g) (by omega)
              rw [show n * g + (i - n * g) = i by omega] at this
              rw [this]; rfl
            · rw [World.cell?_setCells_out L.blk vs (n * g) w _ (fun _ _ => by simp only []; omega)]
              exact (o6 i hi).1
        refine ⟨_, _, ρ', run_append_in T.hs T.hy hsz (hm w.drawn) hroom (hvs1 w.drawn) (a := ⟨L.blk, L.off + 0, none⟩) ?_, ⟨L, k, by rw [e1]; exact q1, rfl, hroom, hk2, hk3⟩, q2⟩
        rw [Addr.add_mid, o4, Nat.zero_add]
        exact hst
      · -- a new array
        have e1 := (put_ok hbl h14).1
        have hf1 : Fresh ρ s1.next r.2.next := by rw [e1]; exact hf
        have hload : ∀ d, (Builtin.firstCells g n (.slice (some ⟨L.blk, L.off + 0, none⟩) n k)).run P { w with drawn := d } = .ok (((List.range (n * g)).map fun j => (w.cell? ⟨L.blk, L.off + j, none⟩).getD undef)).toArray { w with drawn := d } := fun d => by
          have := run_loadCells_list (P := P) { w with drawn := d } ⟨L.blk, L.off + 0, none⟩ ((List.range (n * g)).map fun j => (w.cell? ⟨L.blk, L.off + j, none⟩).getD undef) (fun j v hj => by
            rw [Addr.add_mid]
            have hjn : j < n * g := by have := (List.getElem?_eq_some_iff.1 hj).1; simpa using this
            obtain ⟨u, hu, _⟩ := o1 j cs[j] (by simp)
            simp [hjn, hu] at hj
            subst hj
            rw [Nat.add_zero]
            exact hu)
          simp only [List.length_map, List.length_range] at this
          exact this
        obtain ⟨u2, w2, ρ2, q1, q2, q3⟩ := appendNew_ok T hkill.wrel hf1 h (hm w.drawn) (by omega) hload hvs1 (by simp) hvl (hold.append hvs2)
        exact ⟨u2, w2, ρ2, q1, q2, hkill.trans (fun i h1 h2 => hf i h1 (by have := q3.next; omega)) q3⟩
  · cases h

/-! ### The others -/
theorem lenA_ok {t : TypeId} {x : AVal} {n : Nat} {u : Value} {tp : TypeId} (hw : WRel σ N0 w0 ρ s w) (h : lenA P s t x = .ok n) (hu : VRel σ ρ x u) : (Builtin.len_ #[t] tp #[u]).run P w = .ok (goInt n) w := by
  unfold lenA at h
  replace h := R.bind_ok' h
  obtain ⟨d, h1, h⟩ := h
  have und := run_und h1 w
  split at h
  · cases h
    obtain ⟨rfl, _⟩ := hu
    simp [Builtin.len_, und]
  · cases h
    simp [Builtin.len_, und]
  · rename_i b o m c
    cases h
    cases c with
    | known k => obtain ⟨L, _, rfl⟩ := hu; simp [Builtin.len_, und]
    | grown g => obtain ⟨L, k, _, rfl, _⟩ := hu; simp [Builtin.len_, und]
  · cases h
    obtain ⟨rfl, _⟩ := hu
    simp [Builtin.len_, und]
  · cases h
    obtain ⟨rfl, _⟩ := hu
    simp [Builtin.len_, und]
  · replace h := R.bind_ok' h
    obtain ⟨o, h2, h⟩ := h
    split at h
    · rename_i es c
      cases h
      obtain ⟨L, hL, rfl⟩ := hu
      obtain ⟨ms, hm, hr⟩ := hw.heap _ _ (get_ok h2) L hL
      have := hr.length
      simp at this
      simp [Builtin.len_, und, run_getMap hm, this]
    · cases h
  · cases h

theorem oneInt_ok {a : AVal} {k : IntKind} {n : Int} {u : Value} (h : oneInt a = .ok (k, n)) (hv : VRel σ ρ a u) : u = .int k n := by
  unfold oneInt at h
  split at h
  · cases h; exact hv.1
  · cases h

theorem foldMin_ok {k : IntKind} : ∀ {l : List AVal} {us : List Value} {a : Int} {r : AVal}, foldInt minI k a l = .ok r → VRels σ ρ l us → ∃ u, (us.foldlM Builtin.min2 (.int k a)).run P w = .ok u w ∧ VRel σ ρ r u
  | [], us, a, r, h, hv => by
    cases h
    simp only [VRels] at hv
    subst hv
    exact ⟨.int k a, rfl, rfl, rfl⟩
  | x :: l, us, a, r, h, hv => by
    obtain ⟨u, ut, rfl, h1, h2⟩ := hv
    unfold foldInt at h
    replace h := R.bind_ok' h
    obtain ⟨⟨k', b⟩, h3, h⟩ := h
    have := oneInt_ok h3 h1
    subst this
    obtain ⟨v, h4, h5⟩ := foldMin_ok h h2
    refine ⟨v, ?_, h5⟩
    rw [List.foldlM_cons, Sem.run_bind]
    exact h4

theorem foldMax_ok {k : IntKind} : ∀ {l : List AVal} {us : List Value} {a : Int} {r : AVal}, foldInt maxI k a l = .ok r → VRels σ ρ l us → ∃ u, (us.foldlM Builtin.max2 (.int k a)).run P w = .ok u w ∧ VRel σ ρ r u
  | [], us, a, r, h, hv => by
    cases h
    simp only [VRels] at hv
    subst hv
    exact ⟨.int k a, rfl, rfl, rfl⟩
  | x :: l, us, a, r, h, hv => by
    obtain ⟨u, ut, rfl, h1, h2⟩ := hv
    unfold foldInt at h
    replace h := R.bind_ok' h
    obtain ⟨⟨k', b⟩, h3, h⟩ := h
    have := oneInt_ok h3 h1
    subst this
    obtain ⟨v, h4, h5⟩ := foldMax_ok h h2
    refine ⟨v, ?_, h5⟩
    rw [List.foldlM_cons, Sem.run_bind]
    exact h4

theorem deleteA_ok {t tp : TypeId} {ts : Array TypeId} {m k : AVal} {r : AVal × AState} {u v : Value} (hw : WRel σ N0 w0 ρ s w) (h : deleteA P s t m k = .ok r) (hu : VRel σ ρ m u) (hv : VRel σ ρ k v) (hts : ts[0]? = some t) :
    BSem P σ N0 w0 (Builtin.delete_ ts tp #[u, v]) ρ s w r := by
  unfold deleteA at h
  replace h := R.bind_ok' h
  obtain ⟨el, h1, h⟩ := h
  replace h := R.bind_ok' h
  obtain ⟨kv, h2, h⟩ := h
  replace h := R.bind_ok' h
  obtain ⟨⟨b, es, c⟩, h3, h⟩ := h
  replace h := R.bind_ok' h
  obtain ⟨q, h4, h⟩ := h
  obtain ⟨key, kd, ht, hkd⟩ := intKey_ok h1
  obtain ⟨rfl, j, n, rfl⟩ := asKey_ok h2 hv
  obtain ⟨L, ms, hL, rfl, hb, hmm, hr⟩ := mapOf_ok hw h3 hu
  have hck : ∀ b, (Instr.checkKey b 10000 key (.int j n)).run P w = .ok () w := fun b => checkKey_int b 9999 hkd w
  have hlt : L.blk < w.heap.size := (hw.rng b L hL).1
  obtain ⟨q', h5, h6⟩ := findKey_ok (P := P) hkd hr h4 w
  cases q with
  | none =>
    cases q' with
    | some _ => exact h6.elim
    | none =>
      cases h
      refine ⟨.tuple #[], World.setObj w L.blk (.map ms c), ρ, ?_, VRel.undef, Post.of_heap hw (fun x => ?_) (by simp [World.setObj]) rfl rfl rfl⟩
      · simp only [Builtin.delete_, hts, List.getElem?_toArray, List.getElem?_cons_zero, List.getElem?_cons_succ, Sem.run_bind, run_underlying ht, Result.andThen_ok, run_getMap hmm, hck, h5, run_setMap hmm, Sem.run_pure]
      · by_cases hx : x = L.blk
        · subst hx; rw [heap_setObj_eq w _ _ hlt, hmm]
        · exact heap_setObj_ne w _ _ _ hx
  | some qv =>
    cases q' with
    | none => exact h6.elim
    | some qv' =>
      obtain ⟨i, x⟩ := qv
      obtain ⟨i', x'⟩ := qv'
      obtain ⟨rfl, _, y, g5, _⟩ := h6
      replace h := R.bind_ok' h
      obtain ⟨s1, h7, h⟩ := h
      cases h
      have hi : i < ms.size := by
        have h1 := (List.getElem?_eq_some_iff.1 g5).1
        have h2 := hr.length
        simp at h2; omega
      have hpost := Post.setObj (O := .map (ms.eraseIdxIfInBounds i) c) hw hb hL h7 ⟨_, heap_setObj_eq w _ _ hlt, by
        have : (ms.eraseIdxIfInBounds i).toList = ms.toList.eraseIdx i := by simp [Array.eraseIdxIfInBounds, hi]
        rw [this]
        exact hr.eraseIdx i⟩
      refine ⟨.tuple #[], _, ρ, ?_, VRel.undef, hpost⟩
      simp only [Builtin.delete_, hts, List.getElem?_toArray, List.getElem?_cons_zero, List.getElem?_cons_succ, Sem.run_bind, run_underlying ht, Result.andThen_ok, run_getMap hmm, hck, h5, run_setMap hmm, Sem.run_pure]

theorem copyA_ok {t tp : TypeId} {ts : Array TypeId} {x y : AVal} {r : AVal × AState} {u v : Value} (hw : WRel σ N0 w0 ρ s w) (h : copyA P s t x y = .ok r) (hu : VRel σ ρ x u) (hv : VRel σ ρ y v) (hts : ts[0]? = some t) :
    BSem P σ N0 w0 (Builtin.copy_ ts tp #[u, v]) ρ s w r := by
  unfold copyA at h
  replace h := R.bind_ok' h
  obtain ⟨d, h1, h⟩ := h
  split at h
  case h_2 => cases h
  rename_i el
  replace h := R.bind_ok' h
  obtain ⟨esz, h2, h⟩ := h
  replace h := R.bind_ok' h
  obtain ⟨n, h3, h⟩ := h
  replace h := R.bind_ok' h
  obtain ⟨m, h4, h⟩ := h
  replace h := R.bind_ok' h
  obtain ⟨new, h5, h⟩ := h
  obtain ⟨⟨xb, xk, rfl⟩, hx⟩ := lenOfA_ok h3 hu
  obtain ⟨⟨yb, yk, rfl⟩, hy⟩ := lenOfA_ok h4 hv
  obtain ⟨vs, k1, k2, _⟩ := sliceCells_ok (P := P) hw h5 hv
  have k1' : (Builtin.firstCells esz (min m n) (.slice yb m yk)).run P w = .ok vs.toArray w := k1 w.drawn
  have hsz := run_sz h2 w
  have hund := run_und h1 w
  have hmin : Nat.min m n = min m n := rfl
  unfold copyTo at h
  split at h
  · rename_i b o l c
    replace h := R.bind_ok' h
    obtain ⟨s1, h6, h⟩ := h
    cases h
    have : ∃ L, ρ b = some L ∧ xb = some ⟨L.blk, L.off + o, none⟩ := by
      cases c with
      | known k => obtain ⟨L, g1, g2⟩ := hu; cases g2; exact ⟨L, g1, rfl⟩
      | grown g => obtain ⟨L, k, g1, g2, _⟩ := hu; cases g2; exact ⟨L, g1, rfl⟩
    obtain ⟨L, hL, rfl⟩ := this
    obtain ⟨g1, g2⟩ := storeCells_ok (P := P) hw h6 hL k2
    refine ⟨goInt (min m n : Nat), _, ρ, ?_, ⟨rfl, rfl⟩, g2⟩
    simp [Builtin.copy_, hts, hund, hsz, Builtin.lenOf, hmin, k1', g1]
  · cases h
    obtain ⟨g1, _⟩ := hu
    cases g1
    refine VSem.pure hw (u := goInt (min m n : Nat)) ?_ ⟨rfl, rfl⟩
    simp [Builtin.copy_, hts, hund, hsz, Builtin.lenOf, hmin, k1']
  · cases h

theorem clearA_ok {t tp : TypeId} {ts : Array TypeId} {x : AVal} {r : AVal × AState} {u : Value} (hw : WRel σ N0 w0 ρ s w) (h : clearA P s t x = .ok r) (hu : VRel σ ρ x u) (hts : ts[0]? = some t) :
    BSem P σ N0 w0 (Builtin.clear_ ts tp #[u]) ρ s w r := by
  unfold clearA at h
  replace h := R.bind_ok' h
  obtain ⟨d, h1, h⟩ := h
  split at h
  case h_2 => cases h
  rename_i el b o n c
  replace h := R.bind_ok' h
  obtain ⟨z, h2, h⟩ := h
  replace h := R.bind_ok' h
  obtain ⟨s1, h3, h⟩ := h
  cases h
  have : ∃ L k, ρ b = some L ∧ u = .slice (some ⟨L.blk, L.off + o, none⟩) n k := by
    cases c with
    | known k => obtain ⟨L, g1, g2⟩ := hu; exact ⟨L, k, g1, g2⟩
    | grown g => obtain ⟨L, k, g1, g2, _⟩ := hu; exact ⟨L, k, g1, g2⟩
  obtain ⟨L, k, hL, rfl⟩ := this
  obtain ⟨zv, hz1, hz2⟩ := zeroOf_ok (σ := σ) h2
  have hzl := (hz2 ρ).cells'.length
  simp only [Array.length_toList] at hzl
  have hrow := repl_ok (σ := σ) (ρ := ρ) (n := n) (k := n * zv.cells.size) (hz2 ρ).cells' (by rw [hzl])
  obtain ⟨g1, g2⟩ := storeCells_ok (P := P) hw h3 hL hrow
  have hund := run_und h1 w
  cases n with
  | zero =>
    have he : (Array.map (zv.cells[· % zv.cells.size]!) (Array.range (0 * zv.cells.size))).toList = [] := by simp
    rw [he] at g2
    refine ⟨.tuple #[], w, ρ, ?_, VRel.undef, g2⟩
    simp [Builtin.clear_, hts, hund]
  | succ n =>
    refine ⟨.tuple #[], _, ρ, ?_, VRel.undef, g2⟩
    simp only [Builtin.clear_, hts, List.getElem?_toArray, List.getElem?_cons_zero, Sem.run_bind, hund, Result.andThen_ok, hz1, Builtin.zeroCells, g1, Sem.run_pure]

end
end Go.Am
