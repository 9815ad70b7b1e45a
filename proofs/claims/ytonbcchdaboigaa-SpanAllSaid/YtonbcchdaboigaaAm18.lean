/-
  The abstract machine is sound: what it runs to, the model comes to, whatever orders are drawn.
-/
import Derived.Test.YtonbcchdaboigaaAm17
import Derived.Scope
import Derived.Tactics
namespace Go.Am
open Go Go.RowKit
set_option linter.unusedVariables false

section
variable {σ : Syms} {N0 : Nat} {w0 : World} {P : Program}

/-! ### Drawn regions -/
section
variable {rec : Rec} {ops : Array Oper} {W : Walk P rec ops.toList} {tr : List Step} {a a' : AAct} {s s' : AState} {ρ0 : Ren} {w1 : World}

theorem Dr.all_listed (D : Dr P σ N0 w0 rec ops W tr a s a' s' ρ0 w1) {listed : Array Bool} (hsz : listed.size = ops.size) (hr : Region.ready .any ops listed = []) : ∀ j, j < ops.size → Lst listed j := by
  intro j
  induction j using Nat.strongRecOn with
  | _ j ih =>
    intro hj
    cases hq : listed.getD j false with
    | true => exact hq
    | false =>
      exfalso
      have hmem : j ∈ Region.ready .any ops listed := by
        unfold Region.ready
        rw [List.mem_filter]
        refine ⟨by simp [hj], ?_⟩
        have h1 : listed.getD j true = false := by
          have hjl : j < listed.size := by omega
          simpa [Array.getD, hjl] using hq
        rw [h1]
        simp only [Bool.not_false, Bool.true_and]
        have ho : ops[j]? = some ops[j] := by simp [hj]
        rw [ho]
        simp only [Option.map_some, Option.getD_some]
        rw [Array.all_eq_true_iff_forall_mem]
        intro e he
        cases hb : Region.binds .any e with
        | false => rfl
        | true =>
          have hej : e.on < j := by
            have h2 := List.all_eq_true.1 D.edges (ops[j], j) (by rw [List.mem_zipIdx_iff_getElem?]; simp)
            have h3 := List.all_eq_true.1 h2 e (by simp [he])
            simp only [hb, Bool.not_true, Bool.false_or] at h3
            exact Nat.le_of_ble_eq_true h3
          have := ih e.on hej (by omega)
          unfold Lst at this
          rw [this]
          rfl
      rw [hr] at hmem
      simp at hmem

theorem Dr.last (D : Dr P σ N0 w0 rec ops W tr a s a' s' ρ0 w1) {listed : Array Bool} {act : Act} {w : World} (hI : Inv σ N0 w0 ops W a s s' ρ0 w1 listed act w) (hall : ∀ j, j < ops.size → Lst listed j) :
    ∃ ρ, ARel σ ρ a' act ∧ Post σ N0 w0 ρ0 s w1 ρ s' w := by
  obtain ⟨hsz, hc, ρ, m, I⟩ := hI
  have hm : m = ops.size := by
    have := I.mle
    by_cases h : m = ops.size
    · exact h
    · have hmn : m < ops.size := by omega
      have := (I.wr m hmn (I.mw hmn)).1 (hall m hmn)
      omega
  subst hm
  have hA : W.A ops.size = a' := by
    have := D.walk.an
    rwa [D.lt] at this
  have hn := D.walk.nA (j := ops.size) (by rw [D.lt]; exact Nat.le_refl _)
  rw [hA] at hn
  have hab := D.abs0 (Nat.le_refl _)
  rw [D.sN] at hab
  have hw := I.wrel
  rw [D.sN] at hw
  refine ⟨ρ, ⟨by rw [hn]; exact I.asize, I.adef, fun t v hv => ?_⟩, I.ext, fun b L e => ?_, hab.next, hab.ro, hab.low, hab.same, hab.live, hw, I.frame, I.size⟩
  · rw [← hA] at hv
    by_cases h : ∃ (i : Nat) (oi : Oper), ops[i]? = some oi ∧ oi.dst = some t
    · obtain ⟨i, oi, hoi, hd⟩ := h
      have hin : i < ops.size := (Array.getElem?_eq_some_iff.1 hoi).1
      have h1 := D.walk.getA_set (i := i) (by simpa using hoi) hd
      have h2 := D.walk.getA_keep (t := t) (i := i + 1) (j := ops.size) (by omega) (by rw [D.lt]; omega) fun k ok h1 h2 hk hd' =>
        (D.tmps hoi (by simpa using hk) (by omega) hd).1 hd'
      rw [h2, h1] at hv
      cases hv
      exact I.t1 i oi t hoi (hall i hin) hd
    · have h2 := D.walk.getA_keep (t := t) (i := 0) (j := ops.size) (by omega) (by rw [D.lt]; omega) fun k ok h1 h2 hk hd => h ⟨k, ok, by simpa using hk, hd⟩
      rw [h2, D.walk.a0] at hv
      exact I.t2 t v hv fun k ok hk hl hd => h ⟨k, ok, hk, hd⟩
  · rcases D.known hc I e with ⟨h1, _⟩ | ⟨h1, h2, h3, _⟩
    · exact .inl h1
    · rw [D.sN] at h2
      exact .inr ⟨h1, h2, h3⟩

theorem mem_ready {listed : Array Bool} {j : Nat} (h : j ∈ Region.ready .any ops listed) (hsz : listed.size = ops.size) :
    ∃ o, ops[j]? = some o ∧ ¬ Lst listed j ∧ ∀ e ∈ o.after.toList, Region.binds .any e = true → Lst listed e.on := by
  unfold Region.ready at h
  rw [List.mem_filter] at h
  obtain ⟨h1, h2⟩ := h
  have hj : j < ops.size := by simpa using h1
  rw [Bool.and_eq_true] at h2
  obtain ⟨h2, h3⟩ := h2
  have ho : ops[j]? = some ops[j] := by simp [hj]
  refine ⟨ops[j], ho, fun hl => ?_, fun e he hb => ?_⟩
  · have hjl : j < listed.size := by omega
    unfold Lst at hl
    simp [Array.getD, hjl] at h2 hl
    rw [hl] at h2; cases h2
  · rw [ho] at h3
    simp only [Option.map_some, Option.getD_some] at h3
    rw [Array.all_eq_true_iff_forall_mem] at h3
    have := h3 e (by simpa using he)
    rw [hb] at this
    unfold Lst
    simpa [Array.getD_eq_getD_getElem?] using this

theorem Dr.any (D : Dr P σ N0 w0 rec ops W tr a s a' s' ρ0 w1) {Q : Exit → Act → World → Prop} (hQ : ∀ act' w' ρ', ARel σ ρ' a' act' → Post σ N0 w0 ρ0 s w1 ρ' s' w' → Q .normal act' w') :
    ∀ (fuel : Nat) (listed : Array Bool) (act : Act) (w : World), cnt ops.size listed ≤ fuel → Inv σ N0 w0 ops W a s s' ρ0 w1 listed act w → wpAny P .any ops Q fuel listed act w := by
  intro fuel
  have fin : ∀ (listed : Array Bool) (act : Act) (w : World), Inv σ N0 w0 ops W a s s' ρ0 w1 listed act w → Region.ready .any ops listed = [] → Q .normal act w := fun listed act w hI hr => by
    obtain ⟨ρ, h1, h2⟩ := D.last hI (D.all_listed hI.size hr)
    exact hQ act w ρ h1 h2
  induction fuel with
  | zero =>
    intro listed act w hcnt hI
    have hr : Region.ready .any ops listed = [] := by
      cases hq : Region.ready .any ops listed with
      | nil => rfl
      | cons j r =>
        exfalso
        obtain ⟨o, ho, hl, _⟩ := mem_ready (listed := listed) (j := j) (ops := ops) (by rw [hq]; simp) hI.size
        have hj : j < ops.size := (Array.getElem?_eq_some_iff.1 ho).1
        have : j ∈ (List.range ops.size).filter fun i => listed.getD i true == false := by
          rw [List.mem_filter]
          refine ⟨by simp [hj], ?_⟩
          have hjl : j < listed.size := by rw [hI.size]; exact hj
          unfold Lst at hl
          simp [Array.getD, hjl] at hl ⊢
          exact hl
        unfold cnt at hcnt
        have h0 := List.length_eq_zero_iff.1 (Nat.le_zero.1 hcnt)
        rw [h0] at this
        simp at this
    exact ⟨hr, fin listed act w hI hr⟩
  | succ fuel ih =>
    intro listed act w hcnt hI
    refine ⟨fin listed act w hI, fun j hj => ?_⟩
    obtain ⟨o, ho, hl, hall⟩ := mem_ready hj hI.size
    refine D.exec hI ho hl hall fun act' w' hI' => ih _ _ _ ?_ hI'
    have hjn : j < ops.size := (Array.getElem?_eq_some_iff.1 ho).1
    have hjl : j < listed.size := by rw [hI.size]; exact hjn
    have : cnt ops.size (listed.setIfInBounds j true) < cnt ops.size listed := by
      unfold cnt
      refine filter_lt _ (fun x hx hq => ?_) ⟨j, by simp [hjn], ?_, ?_⟩
      · by_cases hxj : j = x
        · subst hxj; simp [Array.getD, hjl] at hq
        · rwa [getD_set_ne true hxj] at hq
      · unfold Lst at hl
        simp [Array.getD, hjl] at hl ⊢
        exact hl
      · simp [Array.getD, hjl]
    omega

end

theorem WRel.drew {ρ : Ren} {s : AState} {w : World} (h : WRel σ N0 w0 ρ s w) : WRel σ N0 w0 ρ s { w with drawn := w.drawn + 1 } :=
  ⟨h.base.drew, h.n0, h.bnd, h.inj, h.dom, h.rng, fun b o hb L e => (h.heap b o hb L e).of_block rfl⟩

theorem draw_sound {rec : Rec} (hrec : RecOk P σ N0 w0 rec) (hm : P.follows .mixedOrders = true) {ops : Array Oper} {a a' : AAct} {s s' : AState} (h : drawRun P rec ops.toList a s = .ok (a', s')) {ρ0 : Ren} {w1 : World} {act : Act}
    (ha : ARel σ ρ0 a act) (hw : WRel σ N0 w0 ρ0 s w1) (hf : Fresh ρ0 s.next s'.next) {id : Nat} {Q : Exit → Act → World → Prop}
    (hQ : ∀ act' w' ρ', ARel σ ρ' a' act' → Post σ N0 w0 ρ0 s w1 ρ' s' w' → Q .normal act' w') : (Code.region id ops true).wp P Q act w1 := by
  classical
  unfold drawRun at h
  replace h := R.bind_ok' h
  obtain ⟨_, h1, h⟩ := h
  replace h := R.bind_ok' h
  obtain ⟨⟨tr, a2, s2⟩, h2, h⟩ := h
  replace h := R.bind_ok' h
  obtain ⟨_, h3, h⟩ := h
  cases h
  obtain ⟨W, hW⟩ := trace_walk h2
  replace hf : Fresh ρ0 s.next s2.next := hf
  have D : Dr P σ N0 w0 rec ops W tr a s a2 s2 ρ0 { w1 with drawn := w1.drawn + 1 } := ⟨hrec, hW, guardR_ok h1, guardR_ok h3, hw.drew, hf⟩
  refine wp_region_any hm (D.any (fun act' w' ρ' h4 h5 => hQ act' w' ρ' h4 ?_) ops.size _ act _ ?_ ?_)
  · exact ⟨h5.ext, h5.new, h5.next, h5.ro, h5.low, h5.same, h5.live, h5.wrel, h5.frame, h5.size⟩
  · unfold cnt
    exact Nat.le_trans (List.length_filter_le _ _) (by simp)
  · obtain ⟨m, _, m1, m2, m3⟩ := next_writer (fun k => IsW W k) ops.size ops.size 0 (by omega) (by omega)
    have nol : ∀ j, ¬ Lst (Array.replicate ops.size false) j := fun j hj => by
      unfold Lst at hj
      by_cases hjl : j < ops.size <;> simp [Array.getD, hjl] at hj
    refine ⟨by simp, fun j o _ hl => absurd hl (nol j), ρ0, m, m1, fun k hk hkw => ?_, m2, Ext.refl _, ha.size, ha.defers, fun j o t _ hl => absurd hl (nol j), fun t v hv _ => ha.get t v hv, ?_, fun b L e => .inl e, fun c _ _ => rfl, Nat.le_refl _⟩
    · refine ⟨fun hl => absurd hl (nol k), fun hkm => absurd hkw (m3 k (by omega) hkm)⟩
    · refine hw.drew.sub ?_ (D.bnd m1).1 (D.bnd m1).2 fun b L e hl => ?_
      · exact (D.abs0 m1).ro
      · have hbm := (D.bnd m1).2 b hl
        have hnm := (D.absN m1).next
        have hb : b < s.next := by
          by_cases hq : b < s.next
          · exact hq
          · rw [hf b (by omega) (by omega)] at e; cases e
        have hb0 : b < (W.S 0).next := by rw [D.walk.s0]; exact hb
        have := D.keep (i := 0) (j := m) (by omega) m1 hb0 fun k h1 h2 hk => absurd hk (m3 k h1 h2)
        rw [D.walk.s0] at this
        exact this

end
end Go.Am
