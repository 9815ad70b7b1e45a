/-
  The abstract machine: regions that draw their order: whatever order is drawn, the model comes to what the walk in the text's order tells.
-/
import Derived.Test.YtonbcchdaboigaaAm15
namespace Go.Am
open Go Go.RowKit
set_option linter.unusedVariables false

section
variable {σ : Syms} {N0 : Nat} {w0 : World} {P : Program}

section walk
variable {rec : Rec} {ops : List Oper} {W : Walk P rec ops} {tr : List Step} {a a' : AAct} {s s' : AState}

theorem WalkOk.getA_keep (h : WalkOk P rec ops ops W tr a s a' s') {t : Nat} {i : Nat} : ∀ {j : Nat}, i ≤ j → j ≤ ops.length → (∀ k o, i ≤ k → k < j → ops[k]? = some o → o.dst ≠ some t) → (W.A j).tmps.get t = (W.A i).tmps.get t := by
  intro j
  induction j with
  | zero => intro hij _ _; have : i = 0 := by omega
            subst this; rfl
  | succ j ih =>
    intro hij hj hk
    by_cases hq : i = j + 1
    · subst hq; rfl
    · have hjl : j < ops.length := by omega
      have ho : ops[j]? = some ops[j] := by simp [hjl]
      rw [← ih (by omega) (by omega) fun k o h1 h2 h3 => hk k o h1 (by omega) h3]
      obtain ⟨_, _, hp, _⟩ := h.step j _ ho
      rcases aput_ok hp with ⟨_, e⟩ | ⟨d, hd, _, _, hg⟩
      · rw [e]
      · rw [hg, if_neg]
        intro e
        subst e
        exact hk j _ (by omega) (by omega) ho hd

theorem WalkOk.getA_set (h : WalkOk P rec ops ops W tr a s a' s') {t : Nat} {i : Nat} {o : Oper} (ho : ops[i]? = some o) (hd : o.dst = some t) : (W.A (i + 1)).tmps.get t = some (W.V i) := by
  obtain ⟨_, _, hp, _⟩ := h.step i o ho
  rcases aput_ok hp with ⟨e, _⟩ | ⟨d, hd', _, _, hg⟩
  · rw [e] at hd; cases hd
  · rw [hd'] at hd; cases hd
    rw [hg, if_pos rfl]

theorem WalkOk.nA (h : WalkOk P rec ops ops W tr a s a' s') : ∀ {j : Nat}, j ≤ ops.length → (W.A j).n = a.n := by
  intro j
  induction j with
  | zero => intro _; rw [h.a0]
  | succ j ih =>
    intro hj
    have hjl : j < ops.length := by omega
    obtain ⟨_, _, hp, _⟩ := h.step j ops[j] (by simp [hjl])
    rcases aput_ok hp with ⟨_, e⟩ | ⟨d, _, _, e, _⟩
    · rw [e]; exact ih (by omega)
    · rw [e]; exact ih (by omega)

end walk

def cnt (n : Nat) (listed : Array Bool) : Nat := ((List.range n).filter fun i => listed.getD i true == false).length

theorem filter_lt {p q : Nat → Bool} : ∀ (l : List Nat), (∀ x ∈ l, q x = true → p x = true) → (∃ x ∈ l, p x = true ∧ q x = false) → (l.filter q).length < (l.filter p).length
  | [], _, ⟨x, hx, _⟩ => by simp at hx
  | y :: l, h, ⟨x, hx, h1, h2⟩ => by
    have hle : (l.filter q).length ≤ (l.filter p).length := by
      clear h1 h2 hx
      have h' : ∀ x ∈ l, q x = true → p x = true := fun x hx => h x (by simp [hx])
      clear h
      induction l with
      | nil => simp
      | cons z l ih =>
        have := ih (fun x hx => h' x (by simp [hx]))
        rw [List.filter_cons, List.filter_cons]
        cases hq : q z with
        | true => rw [h' z (by simp) hq]; simpa using this
        | false => cases p z <;> simp <;> omega
    rw [List.filter_cons, List.filter_cons]
    rcases List.mem_cons.1 hx with rfl | hx
    · rw [h1, h2]; simp; omega
    · have := filter_lt l (fun x hx => h x (by simp [hx])) ⟨x, hx, h1, h2⟩
      cases hq : q y with
      | true => rw [h y (by simp) hq]; simpa using this
      | false => cases p y <;> simp <;> omega

structure Dr (P : Program) (σ : Syms) (N0 : Nat) (w0 : World) (rec : Rec) (ops : Array Oper) (W : Walk P rec ops.toList) (tr : List Step) (a : AAct) (s : AState) (a' : AAct) (s' : AState) (ρ0 : Ren) (w1 : World) : Prop where
  hrec : RecOk P σ N0 w0 rec
  walk : WalkOk P rec ops.toList ops.toList W tr a s a' s'
  stat : regStatic ops.toList = true
  dyn : dynOk (befAll ops.toList []) tr = true
  w0rel : WRel σ N0 w0 ρ0 s w1
  fresh : Fresh ρ0 s.next s'.next

section dr
variable {rec : Rec} {ops : Array Oper} {W : Walk P rec ops.toList} {tr : List Step} {a a' : AAct} {s s' : AState} {ρ0 : Ren} {w1 : World}

def Lst (listed : Array Bool) (j : Nat) : Prop := listed.getD j false = true

def IsW (W : Walk P rec ops.toList) (k : Nat) : Prop := W.on k = true ∧ (W.T k).low < (W.S k).next

def NewOk (s s' : AState) (ρ0 : Ren) (w1 : World) (b : Nat) (L : Loc) : Prop := w1.heap.size ≤ L.blk ∨ ∃ b0 L0, b0 < s.next ∧ s'.low ≤ b0 ∧ ρ0 b0 = some L0 ∧ L0.blk = L.blk

structure Inv1 (σ : Syms) (N0 : Nat) (w0 : World) (ops : Array Oper) (W : Walk P rec ops.toList) (a : AAct) (s s' : AState) (ρ0 : Ren) (w1 : World) (listed : Array Bool) (act : Act) (w : World) (ρ : Ren) (m : Nat) : Prop where
  mle : m ≤ ops.size
  wr : ∀ k, k < ops.size → IsW W k → (Lst listed k ↔ k < m)
  mw : m < ops.size → IsW W m
  ext : Ext ρ0 ρ
  asize : act.tmps.size = a.n
  adef : act.defers = []
  t1 : ∀ j o t, ops[j]? = some o → Lst listed j → o.dst = some t → ∃ u, act.tmps[t]? = some u ∧ VRel σ ρ (W.V j) u
  t2 : ∀ t v, a.tmps.get t = some v → (∀ j o, ops[j]? = some o → Lst listed j → o.dst ≠ some t) → ∃ u, act.tmps[t]? = some u ∧ VRel σ ρ v u
  wrel : WRel σ N0 w0 ρ (W.S m) w
  dm : ∀ b L, ρ b = some L → ρ0 b = some L ∨ (∃ k, k < ops.size ∧ Lst listed k ∧ (W.S k).next ≤ b ∧ b < (W.T k).next ∧ NewOk s s' ρ0 w1 b L)
  frame : ∀ c, c < w1.heap.size → (∀ b L, b < s.next → s'.low ≤ b → ρ0 b = some L → L.blk ≠ c) → w.heap[c]? = w1.heap[c]?
  size : w1.heap.size ≤ w.heap.size

structure Inv (σ : Syms) (N0 : Nat) (w0 : World) (ops : Array Oper) (W : Walk P rec ops.toList) (a : AAct) (s s' : AState) (ρ0 : Ren) (w1 : World) (listed : Array Bool) (act : Act) (w : World) : Prop where
  size : listed.size = ops.size
  closed : ∀ j o, ops[j]? = some o → Lst listed j → ∀ e ∈ o.after.toList, Region.binds .any e = true → Lst listed e.on
  ex : ∃ ρ m, Inv1 σ N0 w0 ops W a s s' ρ0 w1 listed act w ρ m

theorem Dr.lt (D : Dr P σ N0 w0 rec ops W tr a s a' s' ρ0 w1) : ops.toList.length = ops.size := Array.length_toList

theorem Dr.edges (D : Dr P σ N0 w0 rec ops W tr a s a' s' ρ0 w1) : edgesBack ops.toList = true := by
  have := D.stat
  unfold regStatic at this
  simp only [Bool.and_eq_true] at this
  exact this.1.2

theorem Dr.tmps (D : Dr P σ N0 w0 rec ops W tr a s a' s' ρ0 w1) {i j : Nat} {o o' : Oper} {d : Nat} (hi : ops[i]? = some o) (hj : ops[j]? = some o') (hij : i ≠ j) (hd : o.dst = some d) :
    o'.dst ≠ some d ∧ (d ∈ looks ops.toList o' → ordered (befAll ops.toList []) i j = true) := by
  have := D.stat
  unfold regStatic at this
  simp only [Bool.and_eq_true] at this
  have h1 := List.all_eq_true.1 this.2 (o, i) (by rw [List.mem_zipIdx_iff_getElem?]; simpa using hi)
  simp only [hd] at h1
  have h2 := List.all_eq_true.1 h1 (o', j) (by rw [List.mem_zipIdx_iff_getElem?]; simpa using hj)
  simp only [Bool.or_eq_true, Bool.and_eq_true] at h2
  rcases h2 with h2 | ⟨h2, h3⟩
  · exact absurd (Nat.eq_of_beq_eq_true h2) hij
  · refine ⟨fun e => by simp [e] at h2, fun hm => ?_⟩
    rcases h3 with h3 | h3
    · simp [hm] at h3
    · exact h3

/-- Of a writer and another step: they are ordered, or the other one looks at no memory, or is a load of what isn't turned. -/
theorem Dr.pair (D : Dr P σ N0 w0 rec ops W tr a s a' s' ρ0 w1) {i j : Nat} {o' : Oper} (hi : i < ops.size) (hW : IsW W i) (hj : ops[j]? = some o') (hij : i ≠ j) (hon : W.on j = true) :
    pureOp o'.op = true ∨ ordered (befAll ops.toList []) i j = true ∨ ∃ t x b off, o'.op = .load t x ∧ aev (W.A j) x = .ok (.ptr b off) ∧ (W.S i).heap.get b = (W.T i).heap.get b ∧ (W.S i).heap.get b ≠ none := by
  have hoi : ops.toList[i]? = some ops[i] := by simp [hi]
  obtain ⟨h1, _⟩ := D.walk.step i _ hoi
  obtain ⟨h2, _⟩ := D.walk.step j o' (by simpa using hj)
  have h3 := List.all_eq_true.1 D.dyn (_, i) (by rw [List.mem_zipIdx_iff_getElem?]; exact h1)
  simp only [isW, hW.1, Bool.true_and, Bool.or_eq_true] at h3
  rcases h3 with h3 | h3
  · have : Nat.blt (W.T i).low (W.S i).next = true := Nat.ble_eq_true_of_le hW.2
    rw [this] at h3; cases h3
  · have h4 := List.all_eq_true.1 h3 (_, j) (by rw [List.mem_zipIdx_iff_getElem?]; exact h2)
    unfold okPair at h4
    simp only [hon, Bool.not_true, Bool.or_eq_true, Bool.or_false] at h4
    rcases h4 with ((h4 | h4) | h4) | h4
    · exact absurd (Nat.eq_of_beq_eq_true h4) hij
    · exact .inl h4
    · exact .inr (.inl h4)
    · right; right
      unfold loadBlock at h4
      simp only [] at h4
      split at h4
      · rename_i b hb
        split at hb
        · rename_i t x hop
          split at hb
          · rename_i b' off hev
            cases hb
            exact ⟨t, x, b, off, hop, hev, sameBlock_ok h4, fun e => by simp only [e] at h4; cases h4⟩
          · cases hb
        · cases hb
      · cases h4

theorem ordered_lt {bs : List Nat} {i j : Nat} (h : ordered bs i j = true) : (i < j → Nat.testBit (bs.getD j 0) i = true) ∧ (j < i → Nat.testBit (bs.getD i 0) j = true) := by
  unfold ordered at h
  refine ⟨fun hij => ?_, fun hji => ?_⟩
  · have : Nat.blt i j = true := Nat.ble_eq_true_of_le hij
    rw [this, cond_true] at h; exact h
  · have h1 : Nat.blt i j = false := by cases hq : Nat.blt i j with | false => rfl | true => have := Nat.le_of_ble_eq_true hq; omega
    have h2 : Nat.blt j i = true := Nat.ble_eq_true_of_le hji
    rw [h1, cond_false, h2, cond_true] at h; exact h

theorem Dr.before (D : Dr P σ N0 w0 rec ops W tr a s a' s' ρ0 w1) {listed : Array Bool} (hc : ∀ j o, ops[j]? = some o → Lst listed j → ∀ e ∈ o.after.toList, Region.binds .any e = true → Lst listed e.on) {j : Nat} {o : Oper} (ho : ops[j]? = some o)
    (hall : ∀ e ∈ o.after.toList, Region.binds .any e = true → Lst listed e.on) {i : Nat} (hi : Nat.testBit ((befAll ops.toList []).getD j 0) i = true) : Lst listed i :=
  bef_listed D.edges (lst := Lst listed) (fun j o hj hl => hc j o (by simpa using hj) hl) j o (by simpa using ho) hall i hi

theorem Dr.tmpAt (D : Dr P σ N0 w0 rec ops W tr a s a' s' ρ0 w1) {listed : Array Bool} {act : Act} {w : World} {ρ : Ren} {m : Nat} (hc : ∀ j o, ops[j]? = some o → Lst listed j → ∀ e ∈ o.after.toList, Region.binds .any e = true → Lst listed e.on)
    (I : Inv1 σ N0 w0 ops W a s s' ρ0 w1 listed act w ρ m) {j : Nat} {o : Oper} (ho : ops[j]? = some o) (hun : ¬ Lst listed j) (hall : ∀ e ∈ o.after.toList, Region.binds .any e = true → Lst listed e.on) {t : Nat} {v : AVal} (ht : t ∈ looks ops.toList o)
    (hv : (W.A j).tmps.get t = some v) : ∃ u, act.tmps[t]? = some u ∧ VRel σ ρ v u := by
  have hjn : j < ops.size := (Array.getElem?_eq_some_iff.1 ho).1
  by_cases h : ∃ i oi, ops[i]? = some oi ∧ i ≠ j ∧ oi.dst = some t
  · obtain ⟨i, oi, hoi, hij, hd⟩ := h
    have hin : i < ops.size := (Array.getElem?_eq_some_iff.1 hoi).1
    have uniq : ∀ k ok, ops[k]? = some ok → k ≠ i → ok.dst ≠ some t := fun k ok hk hki => (D.tmps hoi hk (Ne.symm hki) hd).1
    have hord := ordered_lt ((D.tmps hoi ho hij hd).2 ht)
    rcases Nat.lt_or_gt_of_ne hij with hlt | hgt
    · have hl := D.before hc ho hall (hord.1 hlt)
      have h1 := D.walk.getA_set (i := i) (by simpa using hoi) hd
      have h2 := D.walk.getA_keep (t := t) (i := i + 1) (j := j) (by omega) (by rw [D.lt]; omega) fun k ok h1 h2 hk => uniq k ok (by simpa using hk) (by omega)
      rw [h2, h1] at hv
      cases hv
      exact I.t1 i oi t hoi hl hd
    · have hnl : ¬ Lst listed i := fun hl => hun (D.before hc hoi (hc i oi hoi hl) (hord.2 hgt))
      have h2 := D.walk.getA_keep (t := t) (i := 0) (j := j) (by omega) (by rw [D.lt]; omega) fun k ok h1 h2 hk => uniq k ok (by simpa using hk) (by omega)
      rw [h2, D.walk.a0] at hv
      exact I.t2 t v hv fun k ok hk hl => uniq k ok hk (fun e => by subst e; exact hnl hl)
  · have h2 := D.walk.getA_keep (t := t) (i := 0) (j := j) (by omega) (by rw [D.lt]; omega) fun k ok h1 h2 hk hd => h ⟨k, ok, by simpa using hk, by omega, hd⟩
    rw [h2, D.walk.a0] at hv
    exact I.t2 t v hv fun k ok hk hl hd => h ⟨k, ok, hk, fun e => by subst e; exact hun hl, hd⟩

theorem WRel.sub {ρ : Ren} {X Y : AState} {w : World} (h : WRel σ N0 w0 ρ X w) (hro : Y.ro = X.ro) (hb : Y.ro ≤ Y.next ∧ Y.next ≤ lim + 1) (hd : ∀ b, Y.heap.get b ≠ none → b < Y.next)
    (hs : ∀ b L, ρ b = some L → Y.heap.get b ≠ none → Y.heap.get b = X.heap.get b) : WRel σ N0 w0 ρ Y w := by
  refine ⟨h.base, h.n0, hb, fun b b' L L' hr hr' hl hl' e e' hL => ?_, hd, fun b L e => by rw [hro]; exact h.rng b L e, fun b o hbo L e => ?_⟩
  · rw [hro] at hr hr'
    exact h.inj b b' L L' hr hr' (by rw [← hs b L e hl]; exact hl) (by rw [← hs b' L' e' hl']; exact hl') e e' hL
  · rw [hro]
    exact h.heap b o (by rw [← hs b L e (by rw [hbo]; simp)]; exact hbo) L e

theorem lst_set {listed : Array Bool} {j k : Nat} (hj : j < listed.size) : Lst (listed.setIfInBounds j true) k ↔ k = j ∨ Lst listed k := by
  unfold Lst
  by_cases h : j = k
  · subst h
    simp [hj]
  · rw [getD_set_ne false h]
    constructor
    · exact .inr
    · rintro (e | e)
      · exact absurd e.symm h
      · exact e

theorem Dr.finish (D : Dr P σ N0 w0 rec ops W tr a s a' s' ρ0 w1) {listed : Array Bool} {act : Act} {w : World} {ρ : Ren} {m : Nat} (hsz : listed.size = ops.size) (hc : ∀ j o, ops[j]? = some o → Lst listed j → ∀ e ∈ o.after.toList, Region.binds .any e = true → Lst listed e.on)
    (I : Inv1 σ N0 w0 ops W a s s' ρ0 w1 listed act w ρ m) {j : Nat} {o : Oper} (ho : ops[j]? = some o) (hun : ¬ Lst listed j) (hall : ∀ e ∈ o.after.toList, Region.binds .any e = true → Lst listed e.on)
    {ρ' : Ren} {m' : Nat} {u : Value} {w' : World} (hext : Ext ρ ρ') (hv : VRel σ ρ' (W.V j) u) (hm : m' ≤ ops.size) (hwr : ∀ k, k < ops.size → IsW W k → (k = j ∨ Lst listed k ↔ k < m')) (hmw : m' < ops.size → IsW W m')
    (hw' : WRel σ N0 w0 ρ' (W.S m') w') (hdm : ∀ b L, ρ' b = some L → ρ b = some L ∨ ((W.S j).next ≤ b ∧ b < (W.T j).next ∧ NewOk s s' ρ0 w1 b L))
    (hfr : ∀ c, c < w1.heap.size → (∀ b L, b < s.next → s'.low ≤ b → ρ0 b = some L → L.blk ≠ c) → w'.heap[c]? = w.heap[c]?) (hs : w.heap.size ≤ w'.heap.size) :
    Inv σ N0 w0 ops W a s s' ρ0 w1 (listed.setIfInBounds j true) (act.put o.dst u) w' := by
  have hjn : j < ops.size := (Array.getElem?_eq_some_iff.1 ho).1
  have hls : ∀ {k}, Lst (listed.setIfInBounds j true) k ↔ k = j ∨ Lst listed k := lst_set (by omega)
  obtain ⟨_, _, hput, _⟩ := D.walk.step j o (by simpa using ho)
  have hput := aput_ok hput
  have hnA := D.walk.nA (j := j) (by rw [D.lt]; omega)
  refine ⟨by simp [hsz], fun k ok hk hl e he hb => hls.2 (.inr ?_), ρ', m', hm, fun k hk hkw => by rw [hls]; exact hwr k hk hkw, hmw, I.ext.trans hext, ?_, ?_, fun k ok t hk hl hd => ?_, fun t v hv' hno => ?_, hw', fun b L e => ?_, fun c hc' H => (hfr c hc' H).trans (I.frame c hc' H), Nat.le_trans I.size hs⟩
  · rcases hls.1 hl with rfl | hl
    · rw [ho] at hk; cases hk; exact hall e he hb
    · exact hc k ok hk hl e he hb
  · rw [← I.asize]
    cases o.dst <;> simp [Act.put]
  · have := I.adef
    cases o.dst <;> exact this
  · rcases hls.1 hl with rfl | hl'
    · rw [ho] at hk; cases hk
      rcases hput with ⟨e, _⟩ | ⟨d, hd', hlt, _, _⟩
      · rw [e] at hd; cases hd
      · rw [hd'] at hd; cases hd
        rw [hd', tmps_put, if_pos ⟨rfl, by rw [I.asize, ← hnA]; exact hlt⟩]
        exact ⟨u, rfl, hv⟩
    · obtain ⟨x, h1, h2⟩ := I.t1 k ok t hk hl' hd
      have hne : k ≠ j := fun e => by subst e; exact hun hl'
      refine ⟨x, ?_, VRel.mono hext _ _ h2⟩
      cases hod : o.dst with
      | none => exact h1
      | some d =>
        rw [tmps_put, if_neg]
        · exact h1
        · rintro ⟨e, _⟩
          subst e
          exact (D.tmps ho hk (Ne.symm hne) hod).1 hd
  · obtain ⟨x, h1, h2⟩ := I.t2 t v hv' fun k ok hk hl => hno k ok hk (hls.2 (.inr hl))
    refine ⟨x, ?_, VRel.mono hext _ _ h2⟩
    have hne := hno j o ho (hls.2 (.inl rfl))
    cases hod : o.dst with
    | none => exact h1
    | some d =>
      rw [tmps_put, if_neg]
      · exact h1
      · rintro ⟨e, _⟩
        subst e
        exact hne hod
  · rcases hdm b L e with h1 | ⟨h1, h2, h3⟩
    · rcases I.dm b L h1 with h4 | ⟨k, k1, k2, k3⟩
      · exact .inl h4
      · exact .inr ⟨k, k1, hls.2 (.inr k2), k3⟩
    · exact .inr ⟨j, hjn, hls.2 (.inl rfl), h1, h2, h3⟩

end dr
end
end Go.Am
