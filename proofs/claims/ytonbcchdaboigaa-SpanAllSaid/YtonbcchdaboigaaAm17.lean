/-
  The abstract machine: regions that draw their order: one operation more, and the whole region.
-/
import Derived.Test.YtonbcchdaboigaaAm16
namespace Go.Am
open Go Go.RowKit
set_option linter.unusedVariables false

section
variable {σ : Syms} {N0 : Nat} {w0 : World} {P : Program}
variable {rec : Rec} {ops : Array Oper} {W : Walk P rec ops.toList} {tr : List Step} {a a' : AAct} {s s' : AState} {ρ0 : Ren} {w1 : World}

/-- What comes first is unlisted from some place on. -/
theorem next_writer (p : Nat → Prop) [DecidablePred p] (n : Nat) : ∀ (f m : Nat), n - m ≤ f → m ≤ n → ∃ m', m ≤ m' ∧ m' ≤ n ∧ (m' < n → p m') ∧ ∀ k, m ≤ k → k < m' → ¬ p k := by
  intro f
  induction f with
  | zero => intro m h1 h2; exact ⟨n, h2, Nat.le_refl _, fun h => absurd h (by omega), fun k h3 h4 => by omega⟩
  | succ f ih =>
    intro m h1 h2
    by_cases hn : m = n
    · exact ⟨m, Nat.le_refl _, h2, fun h => by omega, fun k h3 h4 => by omega⟩
    · by_cases hp : p m
      · exact ⟨m, Nat.le_refl _, h2, fun _ => hp, fun k h3 h4 => by omega⟩
      · obtain ⟨m', h3, h4, h5, h6⟩ := ih (m + 1) (by omega) (by omega)
        exact ⟨m', by omega, h4, h5, fun k h7 h8 => by
          by_cases hk : k = m
          · subst hk; exact hp
          · exact h6 k (by omega) h8⟩

namespace Dr

theorem at_ (D : Dr P σ N0 w0 rec ops W tr a s a' s' ρ0 w1) {j : Nat} (hj : j < ops.size) :
    Abs (setLow (W.S j) big) (W.T j) ∧ ((W.S (j + 1)).heap = (W.T j).heap ∧ (W.S (j + 1)).next = (W.T j).next ∧ (W.S (j + 1)).ro = (W.S j).ro ∧ (W.S (j + 1)).low = min (W.S j).low (W.T j).low ∧ (W.S j).next ≤ (W.T j).next) :=
  ⟨D.walk.abs1 D.hrec (by rw [D.lt]; exact hj), D.walk.next1 D.hrec (by rw [D.lt]; exact hj)⟩

theorem absS (D : Dr P σ N0 w0 rec ops W tr a s a' s' ρ0 w1) {i j : Nat} (hij : i ≤ j) (hj : j ≤ ops.size) : Abs (W.S i) (W.S j) :=
  D.walk.absS D.hrec hij (by rw [D.lt]; exact hj)

theorem abs0 (D : Dr P σ N0 w0 rec ops W tr a s a' s' ρ0 w1) {j : Nat} (hj : j ≤ ops.size) : Abs s (W.S j) := by
  have := D.absS (i := 0) (Nat.zero_le _) hj
  rwa [D.walk.s0] at this

theorem sN (D : Dr P σ N0 w0 rec ops W tr a s a' s' ρ0 w1) : W.S ops.size = s' := by
  have := D.walk.sn
  rwa [D.lt] at this

theorem absN (D : Dr P σ N0 w0 rec ops W tr a s a' s' ρ0 w1) {j : Nat} (hj : j ≤ ops.size) : Abs (W.S j) s' := by
  have := D.absS hj (Nat.le_refl _)
  rwa [D.sN] at this

theorem bnd (D : Dr P σ N0 w0 rec ops W tr a s a' s' ρ0 w1) {j : Nat} (hj : j ≤ ops.size) : ((W.S j).ro ≤ (W.S j).next ∧ (W.S j).next ≤ lim + 1) ∧ ∀ b, (W.S j).heap.get b ≠ none → b < (W.S j).next := by
  have h := D.abs0 hj
  have h1 := D.w0rel.bnd
  have h2 := h.next
  have h3 := h.ro
  exact ⟨⟨by omega, h.top h1.2⟩, h.dom D.w0rel.dom⟩

/-- A step that turns nothing old. -/
theorem quiet (D : Dr P σ N0 w0 rec ops W tr a s a' s' ρ0 w1) {k : Nat} (hk : k < ops.size) (h : ¬ IsW W k) : (W.S k).next ≤ (W.T k).low := by
  unfold IsW at h
  cases hb : W.on k with
  | true => rw [hb] at h; simp at h; exact h
  | false =>
    obtain ⟨_, h2, _⟩ := D.walk.step k ops[k] (by simp [hk])
    rw [(step_on h2).2.2 hb |>.1, setLow_low]
    have := (D.bnd (Nat.le_of_lt hk)).1.2
    unfold lim at this
    unfold big
    omega

theorem on_of (D : Dr P σ N0 w0 rec ops W tr a s a' s' ρ0 w1) {j : Nat} {o : Oper} (ho : ops[j]? = some o) (hon : W.on j = true) : execA P rec (aev (W.A j)) o (setLow (W.S j) big) = .ok (W.V j, W.T j) := by
  obtain ⟨_, h2, _⟩ := D.walk.step j o (by simpa using ho)
  exact (step_on h2).2.1 hon

theorem off_of (D : Dr P σ N0 w0 rec ops W tr a s a' s' ρ0 w1) {j : Nat} {o : Oper} (ho : ops[j]? = some o) (hon : W.on j = false) : W.T j = setLow (W.S j) big ∧ W.V j = aundef := by
  obtain ⟨_, h2, _⟩ := D.walk.step j o (by simpa using ho)
  exact (step_on h2).2.2 hon

theorem not_w (D : Dr P σ N0 w0 rec ops W tr a s a' s' ρ0 w1) {j : Nat} (hj : j < ops.size) (h : W.T j = setLow (W.S j) big) : ¬ IsW W j := by
  rintro ⟨_, h2⟩
  rw [h, setLow_low] at h2
  have := (D.bnd (Nat.le_of_lt hj)).1.2
  unfold lim at this
  unfold big at h2
  omega

/-- Any block is kept from i to j, if each step keeps it. -/
theorem keep (D : Dr P σ N0 w0 rec ops W tr a s a' s' ρ0 w1) {b i j : Nat} (hij : i ≤ j) (hj : j ≤ ops.size) (hb : b < (W.S i).next) (h : ∀ k, i ≤ k → k < j → IsW W k → (W.S k).heap.get b = (W.T k).heap.get b) :
    (W.S j).heap.get b = (W.S i).heap.get b :=
  D.walk.stable D.hrec hij (by rw [D.lt]; exact hj) hb fun k h1 h2 => by
    by_cases hw : IsW W k
    · exact .inr (h k h1 h2 hw)
    · have := D.quiet (by omega) hw
      have h3 := (D.absS h1 (by omega)).next
      exact .inl (by omega)

section
variable {listed : Array Bool} {act : Act} {w : World} {ρ : Ren} {m : Nat}

/-- What is listed and comes behind m makes no block. -/
theorem above (D : Dr P σ N0 w0 rec ops W tr a s a' s' ρ0 w1) (hc : ∀ j o, ops[j]? = some o → Lst listed j → ∀ e ∈ o.after.toList, Region.binds .any e = true → Lst listed e.on)
    (I : Inv1 σ N0 w0 ops W a s s' ρ0 w1 listed act w ρ m) {k : Nat} (hk : k < ops.size) (hl : Lst listed k) (hm : m ≤ k) : (W.T k).next = (W.S k).next := by
  have ho : ops[k]? = some ops[k] := by simp [hk]
  cases hb : W.on k with
  | false => rw [(D.off_of ho hb).1, setLow_next]
  | true =>
    have hex := D.on_of ho hb
    have hmn : m < ops.size := by omega
    have hmW := I.mw hmn
    have hml : ¬ Lst listed m := fun h => by have := (I.wr m hmn hmW).1 h; omega
    have hne : m ≠ k := fun e => by subst e; exact hml hl
    rcases D.pair hmn hmW ho hne hb with h | h | ⟨t, x, b, off, h, _⟩
    · rw [(pure_any D.hrec h hex).1, setLow_next]
    · exact absurd (D.before hc ho (hc k _ ho hl) ((ordered_lt h).1 (by omega))) hml
    · rw [(load_any h hex).1, setLow_next]

/-- A block that is known is old, or it was made by a listed step in front of m. -/
theorem known (D : Dr P σ N0 w0 rec ops W tr a s a' s' ρ0 w1) (hc : ∀ j o, ops[j]? = some o → Lst listed j → ∀ e ∈ o.after.toList, Region.binds .any e = true → Lst listed e.on)
    (I : Inv1 σ N0 w0 ops W a s s' ρ0 w1 listed act w ρ m) {b : Nat} {L : Loc} (e : ρ b = some L) : (ρ0 b = some L ∧ (b < s.next ∨ s'.next ≤ b)) ∨ (s.next ≤ b ∧ b < (W.S m).next ∧ NewOk s s' ρ0 w1 b L ∧ ∃ k, k < ops.size ∧ Lst listed k ∧ k < m ∧ (W.S k).next ≤ b ∧ b < (W.T k).next) := by
  rcases I.dm b L e with h | ⟨k, h1, h2, h3, h4, h5⟩
  · refine .inl ⟨h, ?_⟩
    by_cases hb : b < s.next
    · exact .inl hb
    · right
      by_cases hb' : s'.next ≤ b
      · exact hb'
      · rw [D.fresh b (by omega) (by omega)] at h; cases h
  · have hkm : k < m := by
      by_cases hkm : k < m
      · exact hkm
      · have := D.above hc I h1 h2 (by omega); omega
    have h6 := (D.abs0 (Nat.le_of_lt h1)).next
    have h7 := (D.at_ h1).2.2.1
    have h8 := (D.absS (i := k + 1) (j := m) (by omega) I.mle).next
    exact .inr ⟨by omega, by omega, h5, k, h1, h2, hkm, h3, h4⟩

theorem freshAt (D : Dr P σ N0 w0 rec ops W tr a s a' s' ρ0 w1) (hc : ∀ j o, ops[j]? = some o → Lst listed j → ∀ e ∈ o.after.toList, Region.binds .any e = true → Lst listed e.on)
    (I : Inv1 σ N0 w0 ops W a s s' ρ0 w1 listed act w ρ m) {j : Nat} (hj : j < ops.size) (hun : ¬ Lst listed j) : Fresh ρ (W.S j).next (W.T j).next := fun b hb hb' => by
  cases e : ρ b with
  | none => rfl
  | some L =>
    exfalso
    have h1 := (D.abs0 (Nat.le_of_lt hj)).next
    have h2 := (D.at_ hj).2.2.1
    have h3 := (D.absN (j := j + 1) hj).next
    rcases D.known hc I e with ⟨_, h4⟩ | ⟨_, _, _, k, h5, h6, h7, h8, h9⟩
    · omega
    · have hkj : k ≠ j := fun e => by subst e; exact hun h6
      rcases Nat.lt_or_gt_of_ne hkj with h | h
      · have := (D.absS (i := k + 1) (j := j) (by omega) (by omega)).next
        have := (D.at_ h5).2.2.1
        omega
      · have := (D.absS (i := j + 1) (j := k) (by omega) (by omega)).next
        omega

/-- An operation that is light: it answers alike at the place m. -/
theorem light (D : Dr P σ N0 w0 rec ops W tr a s a' s' ρ0 w1) (hsz : listed.size = ops.size) (hc : ∀ j o, ops[j]? = some o → Lst listed j → ∀ e ∈ o.after.toList, Region.binds .any e = true → Lst listed e.on)
    (I : Inv1 σ N0 w0 ops W a s s' ρ0 w1 listed act w ρ m) {j : Nat} {o : Oper} (ho : ops[j]? = some o) (hun : ¬ Lst listed j) (hall : ∀ e ∈ o.after.toList, Region.binds .any e = true → Lst listed e.on)
    (hx : ∀ x ∈ o.op.operands.toList, EvOk σ ρ (aev (W.A j)) act.eval x) (hw : ¬ IsW W j) (h : execA P rec (aev (W.A j)) o (setLow (W.S m) big) = .ok (W.V j, setLow (W.S m) big))
    {K : Act → World → Prop} {Q : Exit → Act → World → Prop} (hK : ∀ act' w', Inv σ N0 w0 ops W a s s' ρ0 w1 (listed.setIfInBounds j true) act' w' → K act' w') : o.wp P act w K Q := by
  have hml := (D.bnd I.mle).1.2
  refine exec_sound D.hrec (I.wrel.setLow big) (fun i h1 h2 => absurd h2 (by simp only [setLow_next] at h1 ⊢; omega)) hx h fun u w' ρ' hv hp => ?_
  refine hK _ _ (D.finish hsz hc I ho hun hall hp.ext hv I.mle (fun k hk hkw => ?_) I.mw (hp.wrel.setLow (W.S m).low) (fun b L e => ?_) (fun c hc' H => ?_) hp.size)
  · rw [← I.wr k hk hkw]
    exact ⟨fun h => h.resolve_left fun e => by subst e; exact hw hkw, .inr⟩
  · rcases hp.new b L e with h1 | ⟨h1, h2, _⟩
    · exact .inl h1
    · simp only [setLow_next] at h1 h2; omega
  · refine hp.frame c (Nat.lt_of_lt_of_le hc' I.size) fun b L hb hb' => ?_
    simp only [setLow_next, setLow_low] at hb hb'
    unfold lim at hml
    unfold big at hb'
    omega

/-- An operation that turns nothing old, and is ordered against each writer. -/
theorem heavy (D : Dr P σ N0 w0 rec ops W tr a s a' s' ρ0 w1) (hsz : listed.size = ops.size) (hc : ∀ j o, ops[j]? = some o → Lst listed j → ∀ e ∈ o.after.toList, Region.binds .any e = true → Lst listed e.on)
    (I : Inv1 σ N0 w0 ops W a s s' ρ0 w1 listed act w ρ m) {j : Nat} {o : Oper} (ho : ops[j]? = some o) (hun : ¬ Lst listed j) (hall : ∀ e ∈ o.after.toList, Region.binds .any e = true → Lst listed e.on)
    (hx : ∀ x ∈ o.op.operands.toList, EvOk σ ρ (aev (W.A j)) act.eval x) (hw : ¬ IsW W j) (hon : W.on j = true) (hord : ∀ i, i < ops.size → IsW W i → ordered (befAll ops.toList []) i j = true)
    {K : Act → World → Prop} {Q : Exit → Act → World → Prop} (hK : ∀ act' w', Inv σ N0 w0 ops W a s s' ρ0 w1 (listed.setIfInBounds j true) act' w' → K act' w') : o.wp P act w K Q := by
  have hjn : j < ops.size := (Array.getElem?_eq_some_iff.1 ho).1
  have hmle := I.mle
  have hjm : j < m := by
    by_cases h : j < m
    · exact h
    · exfalso
      have hmn : m < ops.size := by omega
      have hmW := I.mw hmn
      have hml : ¬ Lst listed m := fun h => by have := (I.wr m hmn hmW).1 h; omega
      have hne : m ≠ j := fun e => by subst e; exact hw hmW
      exact hml (D.before hc ho hall ((ordered_lt (hord m hmn hmW)).1 (by omega)))
  have nowr : ∀ k, j ≤ k → k < m → ¬ IsW W k := fun k h1 h2 hk => by
    have hkn : k < ops.size := by omega
    have hkl := (I.wr k hkn hk).2 h2
    have hne : k ≠ j := fun e => by subst e; exact hw hk
    have hok : ops[k]? = some ops[k] := by simp [hkn]
    exact hun (D.before hc hok (hc k _ hok hkl) ((ordered_lt (hord k hkn hk)).2 (by omega)))
  obtain ⟨ab, e1, e2, e3, e4, e5⟩ := D.at_ hjn
  have hq := D.quiet hjn hw
  have hbj := D.bnd (j := j) (by omega)
  have hbm := D.bnd I.mle
  have hro : (W.S m).ro = (W.S j).ro := (D.absS (i := j) (j := m) (by omega) I.mle).ro
  have hTro : (W.T j).ro = (W.S j).ro := ab.ro
  have hWj : WRel σ N0 w0 ρ (setLow (W.S j) big) w :=
    (I.wrel.sub (Y := W.S j) hro.symm hbj.1 hbj.2 fun b L e hl => (D.keep (i := j) (j := m) (by omega) I.mle (hbj.2 b hl) fun k h1 h2 hk => absurd hk (nowr k h1 h2)).symm).setLow big
  refine exec_sound D.hrec (r := (W.V j, W.T j)) hWj (D.freshAt hc I hjn hun) hx (D.on_of ho hon) fun u w' ρ' hv hp => ?_
  replace hp : Post σ N0 w0 ρ (setLow (W.S j) big) w ρ' (W.T j) w' := hp
  have hfr : ∀ c, c < w.heap.size → w'.heap[c]? = w.heap[c]? := fun c hcc => hp.frame c hcc fun b L h1 h2 => by simp only [setLow_next] at h1; omega
  have new : ∀ b L, ρ' b = some L → ρ b = some L ∨ ((W.S j).next ≤ b ∧ b < (W.T j).next ∧ w.heap.size ≤ L.blk) := fun b L e => by
    rcases hp.new b L e with h1 | ⟨h1, h2, h3⟩
    · exact .inl h1
    · simp only [setLow_next] at h1 h3
      rcases h3 with h3 | ⟨b0, L0, h3, h4, _⟩
      · exact .inr ⟨h1, h2, h3⟩
      · omega
  have back : ∀ b, b < (W.T j).next → (W.S m).heap.get b = (W.T j).heap.get b := fun b hb => by
    rw [← e1]
    exact D.keep (i := j + 1) (j := m) (by omega) I.mle (by omega) fun k h1 h2 hk => absurd hk (nowr k (by omega) h2)
  have hwm : WRel σ N0 w0 ρ' (W.S m) w' := by
    refine ⟨hp.wrel.base, hp.wrel.n0, hbm.1, fun b b' L L' hr hr' hl hl' e e' hL => ?_, hbm.2, fun b L e => ?_, fun b ob hb L e => ?_⟩
    · rcases new b L e with h1 | ⟨h1, h2, h3⟩
      · rcases new b' L' e' with h1' | ⟨h1', h2', h3'⟩
        · exact I.wrel.inj b b' L L' hr hr' hl hl' h1 h1' hL
        · have := (I.wrel.rng b L h1).1; omega
      · rcases new b' L' e' with h1' | ⟨h1', h2', h3'⟩
        · have := (I.wrel.rng b' L' h1').1; omega
        · exact hp.wrel.inj b b' L L' (by omega) (by omega) (by rw [← back b h2]; exact hl) (by rw [← back b' h2']; exact hl') e e' hL
    · rw [hro, ← hTro]
      exact hp.wrel.rng b L e
    · rcases new b L e with h1 | ⟨h1, h2, h3⟩
      · exact ((I.wrel.heap b ob hb L h1).mono hp.ext).of_block (hfr _ (I.wrel.rng b L h1).1)
      · rw [hro, ← hTro]
        exact hp.wrel.heap b ob (by rw [← back b h2]; exact hb) L e
  refine hK _ _ (D.finish hsz hc I ho hun hall hp.ext hv I.mle (fun k hk hkw => ?_) I.mw hwm (fun b L e => ?_) (fun c hc' H => hfr c (Nat.lt_of_lt_of_le hc' I.size)) hp.size)
  · rw [← I.wr k hk hkw]
    exact ⟨fun h => h.resolve_left fun e => by subst e; exact hw hkw, .inr⟩
  · rcases new b L e with h1 | ⟨h1, h2, h3⟩
    · exact .inl h1
    · exact .inr ⟨h1, h2, .inl (Nat.le_trans I.size h3)⟩

/-- The writer whose turn it is. -/
theorem writer (D : Dr P σ N0 w0 rec ops W tr a s a' s' ρ0 w1) (hsz : listed.size = ops.size) (hc : ∀ j o, ops[j]? = some o → Lst listed j → ∀ e ∈ o.after.toList, Region.binds .any e = true → Lst listed e.on)
    (I : Inv1 σ N0 w0 ops W a s s' ρ0 w1 listed act w ρ m) {o : Oper} (ho : ops[m]? = some o) (hun : ¬ Lst listed m) (hall : ∀ e ∈ o.after.toList, Region.binds .any e = true → Lst listed e.on)
    (hx : ∀ x ∈ o.op.operands.toList, EvOk σ ρ (aev (W.A m)) act.eval x) (hW : IsW W m)
    {K : Act → World → Prop} {Q : Exit → Act → World → Prop} (hK : ∀ act' w', Inv σ N0 w0 ops W a s s' ρ0 w1 (listed.setIfInBounds m true) act' w' → K act' w') : o.wp P act w K Q := by
  classical
  have hmn : m < ops.size := (Array.getElem?_eq_some_iff.1 ho).1
  obtain ⟨m', hm1, hm2, hm3, hm4⟩ := next_writer (fun k => IsW W k) ops.size (ops.size - (m + 1)) (m + 1) (Nat.le_refl _) hmn
  obtain ⟨ab, e1, e2, e3, e4, e5⟩ := D.at_ hmn
  have hbm := D.bnd I.mle
  have hbm' := D.bnd hm2
  have hro : (W.S m').ro = (W.S m).ro := (D.absS (i := m) (j := m') (by omega) hm2).ro
  have hTro : (W.T m).ro = (W.S m).ro := ab.ro
  have hlow : s'.low ≤ (W.T m).low := by
    have := (D.absN (j := m + 1) hmn).low
    omega
  have hne := (D.absN (j := m + 1) hmn).next
  refine exec_sound D.hrec (r := (W.V m, W.T m)) (I.wrel.setLow big) (D.freshAt hc I hmn hun) hx (D.on_of ho hW.1) fun u w' ρ' hv hp => ?_
  replace hp : Post σ N0 w0 ρ (setLow (W.S m) big) w ρ' (W.T m) w' := hp
  have new : ∀ b L, ρ' b = some L → ρ b = some L ∨ ((W.S m).next ≤ b ∧ b < (W.T m).next ∧ NewOk s s' ρ0 w1 b L) := fun b L e => by
    rcases hp.new b L e with h1 | ⟨h1, h2, h3⟩
    · exact .inl h1
    · refine .inr ⟨h1, h2, ?_⟩
      rcases h3 with h3 | ⟨b0, L0, h3, h4, h5, h6⟩
      · exact .inl (Nat.le_trans I.size h3)
      · simp only [setLow_next] at h3
        rcases D.known hc I h5 with ⟨g1, g2⟩ | ⟨g1, g2, g3, _⟩
        · exact .inr ⟨b0, L0, by omega, by omega, g1, h6⟩
        · rcases g3 with g3 | ⟨b1, L1, g4, g5, g6, g7⟩
          · exact .inl (by omega)
          · exact .inr ⟨b1, L1, g4, g5, g6, g7.trans h6⟩
  have hw' : WRel σ N0 w0 ρ' (W.S m') w' := hp.wrel.sub (by omega) hbm'.1 hbm'.2 fun b L e hl => by
    rw [← e1]
    refine D.keep (i := m + 1) (j := m') hm1 hm2 ?_ fun k h1 h2 hk => absurd hk (hm4 k h1 h2)
    rw [e2]
    rcases new b L e with h1 | ⟨_, h2, _⟩
    · rcases D.known hc I h1 with ⟨g1, g2⟩ | ⟨g1, g2, g3, _⟩
      · have h3 := hbm'.2 b hl
        have h4 := (D.absN hm2).next
        have h5 := (D.abs0 (Nat.le_of_lt hmn)).next
        omega
      · omega
    · exact h2
  refine hK _ _ (D.finish hsz hc I ho hun hall hp.ext hv hm2 (fun k hk hkw => ?_) hm3 hw' new (fun c hc' H => ?_) hp.size)
  · rw [I.wr k hk hkw]
    constructor
    · rintro (h | h) <;> omega
    · intro h
      by_cases hkm : k ≤ m
      · omega
      · exact absurd hkw (hm4 k (by omega) h)
  · refine hp.frame c (Nat.lt_of_lt_of_le hc' I.size) fun b0 L0 h1 h2 h3 => ?_
    simp only [setLow_next] at h1
    rcases D.known hc I h3 with ⟨g1, g2⟩ | ⟨g1, g2, g3, _⟩
    · exact H b0 L0 (by omega) (by omega) g1
    · rcases g3 with g3 | ⟨b1, L1, g4, g5, g6, g7⟩
      · omega
      · rw [← g7]; exact H b1 L1 g4 g5 g6

/-- One operation more, whichever may come next. -/
theorem exec (D : Dr P σ N0 w0 rec ops W tr a s a' s' ρ0 w1) (hI : Inv σ N0 w0 ops W a s s' ρ0 w1 listed act w) {j : Nat} {o : Oper} (ho : ops[j]? = some o) (hun : ¬ Lst listed j)
    (hall : ∀ e ∈ o.after.toList, Region.binds .any e = true → Lst listed e.on)
    {K : Act → World → Prop} {Q : Exit → Act → World → Prop} (hK : ∀ act' w', Inv σ N0 w0 ops W a s s' ρ0 w1 (listed.setIfInBounds j true) act' w' → K act' w') : wpOp P ops Q j K act w := by
  obtain ⟨hsz, hc, ρ, m, I⟩ := hI
  have hjn : j < ops.size := (Array.getElem?_eq_some_iff.1 ho).1
  have hmle := I.mle
  obtain ⟨_, hst, _⟩ := D.walk.step j o (by simpa using ho)
  have hwant : Region.wanted o (yielded ops act.tmps) = W.on j := wantedA_ok (step_on hst).1 fun t v ht hv => D.tmpAt hc I ho hun hall ht hv
  have hx : ∀ x ∈ o.op.operands.toList, EvOk σ ρ (aev (W.A j)) act.eval x := fun x hx => aev_of x fun t v e hv => by
    subst e
    exact D.tmpAt hc I ho hun hall (by unfold looks; exact List.mem_append.2 (.inl (List.mem_filterMap.2 ⟨_, hx, rfl⟩))) hv
  unfold wpOp
  rw [ho]
  simp only []
  rw [hwant]
  cases hon : W.on j with
  | false =>
    simp only [Bool.false_eq_true, if_false]
    obtain ⟨h1, h2⟩ := D.off_of ho hon
    have hw := D.not_w hjn h1
    refine hK _ _ (D.finish hsz hc I ho hun hall (Ext.refl _) (by rw [h2]; exact VRel.undef) I.mle (fun k hk hkw => ?_) I.mw I.wrel (fun b L e => .inl e) (fun c _ _ => rfl) (Nat.le_refl _))
    rw [← I.wr k hk hkw]
    exact ⟨fun h => h.resolve_left fun e => by subst e; exact hw hkw, .inr⟩
  | true =>
    simp only [if_true]
    left
    have hex := D.on_of ho hon
    cases hp : pureOp o.op with
    | true =>
      obtain ⟨h1, h2⟩ := pure_any D.hrec hp hex
      exact D.light hsz hc I ho hun hall hx (D.not_w hjn h1) (h2 _) hK
    | false =>
      by_cases hl : ∃ t x, o.op = .load t x
      · obtain ⟨t, x, hop⟩ := hl
        obtain ⟨h1, b, off, g, cs, h2, h3, h4⟩ := load_any hop hex
        have hw := D.not_w hjn h1
        rw [setLow_heap] at h3
        have hbj : b < (W.S j).next := (D.bnd (Nat.le_of_lt hjn)).2 b (by rw [h3]; simp)
        have third : ∀ k, k < ops.size → IsW W k → ((k < m ∧ j < k) ∨ (m ≤ k ∧ k < j)) → (W.S k).heap.get b = (W.T k).heap.get b ∧ (W.S k).heap.get b ≠ none := fun k hk hkw hr => by
          rcases D.pair hk hkw ho (fun e => by subst e; exact hw hkw) hon with q | q | ⟨t', x', b', off', q1, q2, q3, q4⟩
          · rw [hp] at q; cases q
          · exfalso
            rcases hr with ⟨r1, r2⟩ | ⟨r1, r2⟩
            · have hok : ops[k]? = some ops[k] := by simp [hk]
              exact hun (D.before hc hok (hc k _ hok ((I.wr k hk hkw).2 r1)) ((ordered_lt q).2 r2))
            · have := (I.wr k hk hkw).1 (D.before hc ho hall ((ordered_lt q).1 r2))
              omega
          · rw [hop] at q1
            cases q1
            rw [h2] at q2
            cases q2
            exact ⟨q3, q4⟩
        have hsame : (W.S m).heap.get b = (W.S j).heap.get b := by
          by_cases hjm : j < m
          · exact D.keep (i := j) (j := m) (by omega) I.mle hbj fun k r1 r2 hk => (third k (by omega) hk (.inl ⟨r2, by
              by_cases e : k = j
              · subst e; exact absurd hk hw
              · omega⟩)).1
          · by_cases hjm' : j = m
            · subst hjm'; rfl
            · have hmn : m < ops.size := by omega
              have hmW := I.mw hmn
              have hbm : b < (W.S m).next := (D.bnd I.mle).2 b (third m hmn hmW (.inr ⟨by omega, by omega⟩)).2
              exact (D.keep (i := m) (j := j) (by omega) (by omega) hbm fun k r1 r2 hk => (third k (by omega) hk (.inr ⟨r1, r2⟩)).1).symm
        exact D.light hsz hc I ho hun hall hx hw (h4 _ (by rw [setLow_heap, setLow_heap]; exact hsame)) hK
      · have hpair : ∀ i, i < ops.size → IsW W i → i ≠ j → ordered (befAll ops.toList []) i j = true := fun i hi hiw hij => by
          rcases D.pair hi hiw ho hij hon with q | q | ⟨t', x', b', off', q1, _⟩
          · rw [hp] at q; cases q
          · exact q
          · exact absurd ⟨t', x', q1⟩ hl
        by_cases hw : IsW W j
        · have hjm : j = m := by
            have h1 : ¬ j < m := fun h => hun ((I.wr j hjn hw).2 h)
            by_cases h2 : j = m
            · exact h2
            · exfalso
              have hmn : m < ops.size := by omega
              have hmW := I.mw hmn
              have hml : ¬ Lst listed m := fun h => by have := (I.wr m hmn hmW).1 h; omega
              exact hml (D.before hc ho hall ((ordered_lt (hpair m hmn hmW (Ne.symm h2))).1 (by omega)))
          subst hjm
          exact D.writer hsz hc I ho hun hall hx hw hK
        · exact D.heavy hsz hc I ho hun hall hx hw hon (fun i hi hiw => hpair i hi hiw fun e => by subst e; exact hw hiw) hK

end
end Dr
end
end Go.Am
