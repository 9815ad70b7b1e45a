/-
  A region that draws its order, each of whose operations makes things of its own: whatever order, what each leaves is there.
-/
import Derived.Test.YthhfokbfdeghpaaGrow
import Derived.Orders
import Derived.RegionTactic
namespace Go.Proofs.Ythhfokbfdeghpaa
open Go Go.RowKit Go.Maps Go.Am
set_option linter.unusedVariables false

section
variable {P : Program} {ops : Array Oper} {Q : Exit → Act → World → Prop}

/-- What stands in an operation's slot. -/
def valR (dst : Nat → Nat) (a : Act) (k : Nat) : Value := (a.tmps[dst k]?).getD undef

/-- What is so once some operations have run. pr i v F w: operation i left v, and its own blocks are F. -/
structure DoneR (n base : Nat) (dst : Nat → Nat) (deps : Nat → List Nat) (pr : Nat → (Nat → Value) → Value → List Nat → World → Prop) (a0 : Act) (w0 : World) (listed : Array Bool) (a : Act) (w : World) : Prop where
  size : listed.size = n
  grow : GrowBut w0 w []
  low : base ≤ w.heap.size
  defers : a.defers = a0.defers
  tmps : a.tmps.size = a0.tmps.size
  rest : ∀ t, (∀ i, i < n → dst i ≠ t) → a.tmps[t]? = a0.tmps[t]?
  closed : ∀ i, i < n → listed.getD i false = true → ∀ k, k ∈ deps i → k < n ∧ listed.getD k false = true
  did : ∃ F : Nat → List Nat, (∀ i, i < n → listed.getD i false = true → ∃ v, a.tmps[dst i]? = some v ∧ pr i (valR dst a) v (F i) w ∧ ∀ x ∈ F i, base ≤ x ∧ x < w.heap.size) ∧
    ∀ i j, i < n → j < n → i ≠ j → listed.getD i false = true → listed.getD j false = true → ∀ x, x ∈ F i → ¬ (x ∈ F j)

theorem getD_set {listed : Array Bool} {i j : Nat} (hi : i < listed.size) : (listed.setIfInBounds i true).getD j false = if j = i then true else listed.getD j false := by
  by_cases h : j = i
  · subst h; simp [hi]
  · rw [if_neg h]
    rw [Array.getD_eq_getD_getElem?, Array.getD_eq_getD_getElem?, Array.getElem?_setIfInBounds_ne (fun e => h e.symm)]

theorem doneR_any (n base : Nat) (dst : Nat → Nat) (deps : Nat → List Nat) (pr : Nat → (Nat → Value) → Value → List Nat → World → Prop) (a0 : Act) (w0 : World) (hsize : ops.size = n)
    (hops : ∀ (i : Nat) (o : Oper), ops[i]? = some o → o.dst = some (dst i) ∧ o.guard = none) (hinj : ∀ i j, i < n → j < n → dst i = dst j → i = j) (hlt : ∀ i, i < n → dst i < a0.tmps.size)
    (hst : ∀ i vs v F w w', (∀ x ∈ F, x < w.heap.size) → pr i vs v F w → GrowBut w w' [] → pr i vs v F w')
    (hcg : ∀ i vs vs' v F w, pr i vs v F w → (∀ k, k ∈ deps i → vs' k = vs k) → pr i vs' v F w)
    (hdeps : ∀ (i : Nat) (o : Oper), ops[i]? = some o → ∀ k, k ∈ deps i → k < n ∧ ∃ e ∈ o.after, Region.binds .any e = true ∧ e.on = k)
    (hop : ∀ (i : Nat) (o : Oper) (listed : Array Bool) (a : Act) (w : World), ops[i]? = some o → DoneR n base dst deps pr a0 w0 listed a w → (∀ e ∈ o.after, Region.binds .any e = true → listed.getD e.on false = true) →
      o.wp P a w (fun a' w' => ∃ v F, a' = a.put (some (dst i)) v ∧ pr i (valR dst a) v F w' ∧ GrowBut w w' [] ∧ ∀ x ∈ F, w.heap.size ≤ x ∧ x < w'.heap.size) Q)
    (hfin : ∀ listed a w, DoneR n base dst deps pr a0 w0 listed a w → Region.ready .any ops listed = [] → Q .normal a w) :
    ∀ (fuel : Nat) (listed : Array Bool) (a : Act) (w : World), (((List.range n).filter fun i => !listed.getD i false).length ≤ fuel) → DoneR n base dst deps pr a0 w0 listed a w → wpAny P .any ops Q fuel listed a w
  | 0, listed, a, w, hf, h => by
    have hr : Region.ready .any ops listed = [] := by
      rw [List.eq_nil_iff_forall_not_mem]
      intro j hj
      obtain ⟨h1, o, ho, _⟩ := Go.mem_ready.1 hj
      have hjn : j < n := by rw [← hsize]; exact (Array.getElem?_eq_some_iff.1 ho).1
      have h2 : listed.getD j false = false := by
        have hjs : j < listed.size := by rw [h.size]; exact hjn
        simp [hjs] at h1 ⊢; exact h1
      have : j ∈ (List.range n).filter fun i => !listed.getD i false := List.mem_filter.2 ⟨List.mem_range.2 hjn, by rw [h2]; rfl⟩
      have := List.length_pos_of_mem this
      omega
    exact ⟨hr, hfin _ _ _ h hr⟩
  | fuel + 1, listed, a, w, hf, h => by
    refine ⟨fun hr => hfin _ _ _ h hr, fun i hi => ?_⟩
    obtain ⟨h1, o, ho, hall⟩ := Go.mem_ready.1 hi
    have hin : i < n := by rw [← hsize]; exact (Array.getElem?_eq_some_iff.1 ho).1
    have his : i < listed.size := by rw [h.size]; exact hin
    have h2 : listed.getD i false = false := by simp [his] at h1 ⊢; exact h1
    have hg := (hops i o ho).2
    unfold wpOp
    rw [ho]
    show if Region.wanted o (yielded ops a.tmps) = true then _ else _
    rw [if_pos (by unfold Region.wanted; rw [hg])]
    refine .inl (Oper.wp_mono ?_ (hop i o listed a w ho h hall))
    rintro a' w' ⟨v, F', rfl, hpr, hgr, hF'⟩
    obtain ⟨F, hF, hap⟩ := h.did
    refine doneR_any n base dst deps pr a0 w0 hsize hops hinj hlt hst hcg hdeps hop hfin fuel _ _ _ ?_ ?_
    · have hlen : ((List.range n).filter fun j => !(listed.setIfInBounds i true).getD j false).length < ((List.range n).filter fun j => !listed.getD j false).length := by
        have hsub : ((List.range n).filter fun j => !(listed.setIfInBounds i true).getD j false) = ((List.range n).filter fun j => !listed.getD j false).filter fun j => decide (j ≠ i) := by
          rw [List.filter_filter]
          refine List.filter_congr fun j _ => ?_
          rw [getD_set his]
          by_cases e : j = i
          · simp [e]
          · simp [e]
        rw [hsub]
        refine Nat.lt_of_le_of_ne (List.length_filter_le _ _) (fun e => ?_)
        have hall' := List.length_filter_eq_length_iff.1 e
        have := hall' i (List.mem_filter.2 ⟨List.mem_range.2 hin, by rw [h2]; rfl⟩)
        simp at this
      omega
    · have hdi : ∀ k, k ∈ deps i → k < n ∧ listed.getD k false = true := fun k hk => by
        obtain ⟨hkn, e, he, hb, rfl⟩ := hdeps i o ho k hk
        exact ⟨hkn, hall e he hb⟩
      have hval : ∀ k, k < n → k ≠ i → valR dst (a.put (some (dst i)) v) k = valR dst a k := fun k hk hne => by
        show ((a.tmps.setIfInBounds (dst i) v)[dst k]?).getD undef = _
        rw [Array.getElem?_setIfInBounds_ne (fun e2 => hne (hinj k i hk hin e2.symm))]
        rfl
      refine ⟨by simp [h.size], h.grow.trans hgr, Nat.le_trans h.low hgr.size, h.defers, by simp [Act.put, h.tmps], fun t ht => ?_, fun j hj hl k hk => ?_, fun j => if j = i then F' else F j, fun j hj hl => ?_, fun j k hj hk hjk hlj hlk x hx => ?_⟩
      · rw [← h.rest t ht]
        show (a.tmps.setIfInBounds (dst i) v)[t]? = _
        rw [Array.getElem?_setIfInBounds_ne (ht i hin)]
      · rw [getD_set his] at hl ⊢
        by_cases e : j = i
        · subst e
          have := hdi k hk
          exact ⟨this.1, by split; rfl; exact this.2⟩
        · rw [if_neg e] at hl
          have := h.closed j hj hl k hk
          exact ⟨this.1, by split; rfl; exact this.2⟩
      · rw [getD_set his] at hl
        by_cases e : j = i
        · subst e
          refine ⟨v, ?_, by simpa using hcg j _ _ v F' w' hpr (fun k hk => hval k (hdi k hk).1 (fun e => by have := (hdi k hk).2; rw [e, h2] at this; cases this)), fun x hx => ?_⟩
          · show (a.tmps.setIfInBounds (dst j) v)[dst j]? = _
            rw [Array.getElem?_setIfInBounds_self_of_lt (by rw [h.tmps]; exact hlt j hj)]
          · have := hF' x (by simpa using hx)
            have := h.low
            omega
        · rw [if_neg e] at hl
          obtain ⟨u, hu, hp, hb⟩ := hF j hj hl
          refine ⟨u, ?_, by simpa [e] using hcg j _ _ u (F j) w' (hst j _ u (F j) w w' (fun x hx => (hb x hx).2) hp hgr) (fun k hk => hval k (h.closed j hj hl k hk).1 (fun e => by have := (h.closed j hj hl k hk).2; rw [e, h2] at this; cases this)), fun x hx => ?_⟩
          · show (a.tmps.setIfInBounds (dst i) v)[dst j]? = _
            rw [Array.getElem?_setIfInBounds_ne (fun e2 => e (hinj j i hj hin e2.symm))]
            exact hu
          · have := hb x (by simpa [e] using hx)
            have := hgr.size
            omega
      · rw [getD_set his] at hlj hlk
        by_cases ej : j = i
        · subst ej
          have ek : k ≠ j := fun e => hjk e.symm
          rw [if_neg ek] at hlk
          simp only [if_true, ek, if_false] at hx ⊢
          intro hm
          obtain ⟨_, _, _, hb⟩ := hF k hk hlk
          have := hb x hm
          have := hF' x hx
          omega
        · rw [if_neg ej] at hlj
          simp only [ej, if_false] at hx
          obtain ⟨_, _, _, hb⟩ := hF j hj hlj
          by_cases ek : k = i
          · subst ek
            simp only [if_true]
            intro hm
            have := hb x hx
            have := hF' x hm
            omega
          · rw [if_neg ek] at hlk
            simp only [ek, if_false]
            exact hap j k hj hk hjk hlj hlk x hx

theorem wp_region_free {id : Nat} {a0 : Act} {w0 : World} (hm : P.follows .mixedOrders = true) (n : Nat) (dst : Nat → Nat) (deps : Nat → List Nat) (pr : Nat → (Nat → Value) → Value → List Nat → World → Prop) (hsize : ops.size = n)
    (hops : ∀ (i : Nat) (o : Oper), ops[i]? = some o → o.dst = some (dst i) ∧ o.guard = none) (hinj : ∀ i j, i < n → j < n → dst i = dst j → i = j) (hlt : ∀ i, i < n → dst i < a0.tmps.size)
    (hst : ∀ i vs v F w w', (∀ x ∈ F, x < w.heap.size) → pr i vs v F w → GrowBut w w' [] → pr i vs v F w')
    (hcg : ∀ i vs vs' v F w, pr i vs v F w → (∀ k, k ∈ deps i → vs' k = vs k) → pr i vs' v F w)
    (hdeps : ∀ (i : Nat) (o : Oper), ops[i]? = some o → ∀ k, k ∈ deps i → k < n ∧ ∃ e ∈ o.after, Region.binds .any e = true ∧ e.on = k)
    (hop : ∀ (i : Nat) (o : Oper) (listed : Array Bool) (a : Act) (w : World), ops[i]? = some o → DoneR n w0.heap.size dst deps pr a0 w0 listed a w → (∀ e ∈ o.after, Region.binds .any e = true → listed.getD e.on false = true) →
      o.wp P a w (fun a' w' => ∃ v F, a' = a.put (some (dst i)) v ∧ pr i (valR dst a) v F w' ∧ GrowBut w w' [] ∧ ∀ x ∈ F, w.heap.size ≤ x ∧ x < w'.heap.size) Q)
    (hfin : ∀ listed a w, DoneR n w0.heap.size dst deps pr a0 w0 listed a w → Region.ready .any ops listed = [] → Q .normal a w) :
    (Code.region id ops true).wp P Q a0 w0 := by
  refine wp_region_any hm ?_
  refine doneR_any n w0.heap.size dst deps pr a0 w0 hsize hops hinj hlt hst hcg hdeps hop hfin _ _ _ _ ?_ ?_
  · rw [hsize]
    refine Nat.le_trans (List.length_filter_le _ _) (by simp)
  · refine ⟨by simp [hsize], GrowBut.drew w0 [], Nat.le_refl _, rfl, rfl, fun _ _ => rfl, fun i hi hl => ?_, fun _ => [], fun i hi hl => ?_, fun i j hi hj hij hl => ?_⟩
    · simp [hsize, hi] at hl
    · simp [hsize, hi] at hl
    · simp [hsize, hi] at hl

/-- Each operation waits for earlier ones alone. -/
def downR (ops : Array Oper) : Bool := (List.range ops.size).all fun i => ((ops[i]?).map fun o => o.after.all fun e => decide (e.on < i)).getD true

theorem all_listed {listed : Array Bool} (hs : listed.size = ops.size) (hd : downR ops = true) (hr : Region.ready .any ops listed = []) : ∀ i, i < ops.size → listed.getD i false = true := by
  intro i
  induction i using Nat.strongRecOn with
  | ind i ih =>
    intro hi
    cases hl : listed.getD i false with
    | true => rfl
    | false =>
      exfalso
      have his : i < listed.size := by omega
      have hl' : listed.getD i true = false := by simp [his] at hl ⊢; exact hl
      have ho : ops[i]? = some ops[i] := by simp [hi]
      have hm : i ∈ Region.ready .any ops listed := Go.mem_ready.2 ⟨hl', ops[i], ho, fun e he _ => by
        have h1 := List.all_eq_true.1 hd i (List.mem_range.2 hi)
        rw [ho] at h1
        simp only [Option.map_some, Option.getD_some, Array.all_eq_true_iff_forall_mem, decide_eq_true_eq] at h1
        have h2 := h1 e he
        exact ih e.on h2 (by omega)⟩
      rw [hr] at hm
      cases hm

end
end Go.Proofs.Ythhfokbfdeghpaa
