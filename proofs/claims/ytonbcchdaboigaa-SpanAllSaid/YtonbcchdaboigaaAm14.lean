/-
  The abstract machine: frames and single operations against the model's.
-/
import Derived.Test.YtonbcchdaboigaaAm13
namespace Go.Am
open Go Go.RowKit
set_option linter.unusedVariables false

section
variable {σ : Syms} {N0 : Nat} {w0 : World} {P : Program}

structure ARel (σ : Syms) (ρ : Ren) (a : AAct) (act : Act) : Prop where
  size : act.tmps.size = a.n
  defers : act.defers = []
  get : ∀ t v, a.tmps.get t = some v → ∃ u, act.tmps[t]? = some u ∧ VRel σ ρ v u

theorem aev_of {ρ : Ren} {a : AAct} {act : Act} (x : Operand) (h : ∀ t v, x = .tmp t → a.tmps.get t = some v → ∃ u, act.tmps[t]? = some u ∧ VRel σ ρ v u) : EvOk σ ρ (aev a) act.eval x := by
  intro v hv
  cases x with
  | tmp t =>
    unfold aev at hv
    simp only [] at hv
    cases hq : a.tmps.get t with
    | none => rw [hq] at hv; cases hv
    | some v' =>
      rw [hq] at hv
      cases hv
      obtain ⟨u, hu, hr⟩ := h t _ rfl hq
      have : act.eval (.tmp t) = u := by simp [Act.eval, hu]
      rw [this]; exact hr
  | const c => exact ofVal_ok (R.of_ok hv)
  | global g => cases hv
  | func f => cases hv; exact ⟨#[], rfl, rfl⟩

theorem aput_ok {a a' : AAct} {dst : Option Tmp} {v : AVal} (h : a.put dst v = .ok a') :
    (dst = none ∧ a' = a) ∨ ∃ d, dst = some d ∧ d < a.n ∧ a'.n = a.n ∧ ∀ j, a'.tmps.get j = if j = d then some v else a.tmps.get j := by
  cases dst with
  | none => cases h; exact .inl ⟨rfl, rfl⟩
  | some d =>
    obtain ⟨t, n⟩ := a
    unfold AAct.put at h
    simp only [] at h
    cases hq : (Nat.blt d n && Nat.ble d lim) with
    | false => rw [hq] at h; cases h
    | true =>
      rw [hq, cond_true, forceV_eq] at h
      simp only [Bool.and_eq_true] at hq
      obtain ⟨t', h1, h2⟩ := setK_ok (Nat.le_of_ble_eq_true hq.2) h
      cases h1
      exact .inr ⟨d, rfl, Nat.le_of_ble_eq_true hq.1, rfl, h2⟩

theorem tmps_put {act : Act} {d t : Nat} {u : Value} : (act.put (some d) u).tmps[t]? = if t = d ∧ d < act.tmps.size then some u else act.tmps[t]? := by
  simp only [Act.put]
  rw [Array.getElem?_setIfInBounds]
  by_cases h : d = t
  · subst h
    by_cases h2 : d < act.tmps.size
    · simp [h2]
    · simp [h2]
  · rw [if_neg h, if_neg (by omega)]

theorem ARel.put {ρ ρ' : Ren} {a a' : AAct} {act : Act} {dst : Option Tmp} {v : AVal} {u : Value} (h : ARel σ ρ a act) (he : Ext ρ ρ') (hv : VRel σ ρ' v u) (hp : a.put dst v = .ok a') : ARel σ ρ' a' (act.put dst u) := by
  rcases aput_ok hp with ⟨rfl, rfl⟩ | ⟨d, rfl, hd, hn, hg⟩
  · exact ⟨h.size, h.defers, fun t x hx => let ⟨y, h1, h2⟩ := h.get t x hx; ⟨y, h1, VRel.mono he _ _ h2⟩⟩
  · refine ⟨by rw [hn, ← h.size]; simp [Act.put], h.defers, fun t x hx => ?_⟩
    rw [hg] at hx
    rw [tmps_put]
    by_cases hq : t = d
    · rw [if_pos hq] at hx
      cases hx
      exact ⟨u, by rw [if_pos ⟨hq, by rw [h.size]; exact hd⟩], hv⟩
    · rw [if_neg hq] at hx
      rw [if_neg (by intro hh; exact hq hh.1)]
      obtain ⟨y, h1, h2⟩ := h.get t x hx
      exact ⟨y, h1, VRel.mono he _ _ h2⟩

theorem nthOp_eq : ∀ (l : List Oper) (i : Nat), nthOp l i = l[i]?
  | [], i => by cases i <;> rfl
  | o :: r, 0 => rfl
  | o :: r, i + 1 => by simp only [nthOp, List.getElem?_cons_succ]; exact nthOp_eq r i

theorem wantedA_ok {ρ : Ren} {ops : Array Oper} {a : AAct} {act : Act} {o : Oper} {b : Bool} (h : wantedA ops.toList a o = .ok b)
    (hg : ∀ t v, t ∈ looks ops.toList o → a.tmps.get t = some v → ∃ u, act.tmps[t]? = some u ∧ VRel σ ρ v u) : Region.wanted o (yielded ops act.tmps) = b := by
  unfold wantedA at h
  unfold Region.wanted
  cases hq : o.guard with
  | none => rw [hq] at h; cases h; rfl
  | some gw =>
    obtain ⟨g, want⟩ := gw
    rw [hq] at h
    simp only [] at h ⊢
    cases hd : (nthOp ops.toList g).bind (·.dst) with
    | none => rw [hd] at h; cases h
    | some t =>
      rw [hd] at h
      simp only [] at h
      have hl : t ∈ looks ops.toList o := by
        unfold looks
        rw [hq]
        simp only [hd, List.mem_append]
        exact .inr (by simp)
      have hd' : (ops[g]?).bind (·.dst) = some t := by rw [nthOp_eq, Array.getElem?_toList] at hd; exact hd
      cases hv : a.tmps.get t with
      | none => rw [hv] at h; cases h
      | some v =>
        rw [hv] at h
        obtain ⟨u, hu, hr⟩ := hg t v hl hv
        split at h
        · rename_i x hx
          cases hx
          cases h
          obtain ⟨rfl, _⟩ := hr
          simp only [yielded, hd', Option.bind_some, hu]
          cases x <;> cases want <;> rfl
        · rename_i hx
          cases hx
          cases h
          obtain ⟨ws, rfl, hws⟩ := hr
          simp only [yielded, hd', Option.bind_some, hu]
          rfl
        · cases h

/-- What is known of the runs one level below. -/
structure RecOk (P : Program) (σ : Syms) (N0 : Nat) (w0 : World) (rec : Rec) : Prop where
  sound : ∀ f args s d s', rec (.call f args) s = .ok (d, s') → plainFn P f = true → ∀ ρ w (us : Array Value), WRel σ N0 w0 ρ s w → Fresh ρ s.next s'.next → VRels σ ρ args us.toList →
    ∃ v, d = .val v ∧ Calls P f us w (fun e w' => ∃ u ρ', e = .returned u ∧ VRel σ ρ' v u ∧ Post σ N0 w0 ρ s w ρ' s' w')
  abs : ∀ f args s d s', rec (.call f args) s = .ok (d, s') → Abs s s'
  ask : ∀ op vs s d s', rec (.ask op vs) s = .ok (d, s') → (∀ s2, ∃ s3, rec (.ask op vs) s2 = .ok (d, s3)) ∧ ∃ v, d = .val v ∧
    ∀ ρ (e : Operand → Value) w, VRels σ ρ vs (op.operands.toList.map e) → ∃ u, (∀ o : Oper, o.op = op → (execOp e o).run P w = .ok (.value u) w) ∧ VRel σ ρ v u

theorem doCall_ok {rec : Rec} {f : FuncId} {args : List AVal} {s : AState} {r : AVal × AState} (h : doCall rec f args s = .ok r) : rec (.call f args) s = .ok (.val r.1, r.2) := by
  unfold doCall at h
  replace h := R.bind_ok' h
  obtain ⟨⟨d, s1⟩, h1, h⟩ := h
  cases d with
  | val v => cases h; exact h1
  | out e a => cases h

theorem askA_ok {rec : Rec} {ev : Operand → R AVal} {o : Oper} {s : AState} {w : String} {r : AVal × AState} (h : askA rec ev o s w = .ok r) : asked o.op = true ∧ r.2 = s ∧ ∃ vs s', evs ev o.op.operands.toList = .ok vs ∧ rec (.ask o.op vs) s = .ok (.val r.1, s') := by
  unfold askA at h
  cases hq : asked o.op with
  | false => rw [hq] at h; cases h
  | true =>
    rw [hq, cond_true] at h
    split at h
    · rename_i vs h1
      split at h
      · rename_i v s' h2
        cases h
        exact ⟨rfl, rfl, vs, s', h1, h2⟩
      · cases h
    · cases h

theorem askA_of {rec : Rec} {ev : Operand → R AVal} {o : Oper} {s s' : AState} {w : String} {vs : List AVal} {v : AVal} (h0 : asked o.op = true) (h1 : evs ev o.op.operands.toList = .ok vs) (h2 : rec (.ask o.op vs) s = .ok (.val v, s')) : askA rec ev o s w = .ok (v, s) := by
  unfold askA
  rw [h0, cond_true, h1]
  simp only []
  rw [h2]

theorem exec_abs {rec : Rec} (hrec : RecOk P σ N0 w0 rec) {ev : Operand → R AVal} {o : Oper} {s : AState} {r : AVal × AState} (h : execA P rec ev o s = .ok r) : Abs s r.2 := by
  unfold execA at h
  split at h
  · rename_i v s1 h1
    cases h
    exact aop_abs h1
  · rename_i f args s1 h1
    exact (aop_abs h1).trans (hrec.abs _ _ _ _ _ (doCall_ok h))
  · cases h
  · obtain ⟨_, h2, _⟩ := askA_ok h
    rw [h2]
    exact Abs.refl _

theorem exec_sound {rec : Rec} (hrec : RecOk P σ N0 w0 rec) {ev : Operand → R AVal} {o : Oper} {act : Act} {ρ : Ren} {s : AState} {w : World} {r : AVal × AState} (hw : WRel σ N0 w0 ρ s w) (hf : Fresh ρ s.next r.2.next)
    (hx : ∀ x ∈ o.op.operands.toList, EvOk σ ρ ev act.eval x) (h : execA P rec ev o s = .ok r) {K : Act → World → Prop} {Q : Exit → Act → World → Prop}
    (hK : ∀ u w' ρ', VRel σ ρ' r.1 u → Post σ N0 w0 ρ s w ρ' r.2 w' → K (act.put o.dst u) w') : o.wp P act w K Q := by
  unfold execA at h
  split at h
  case h_3 => cases h
  case h_4 =>
    obtain ⟨_, h2, vs, s', h3, h4⟩ := askA_ok h
    obtain ⟨_, v, e1, hs⟩ := hrec.ask _ _ _ _ _ h4
    cases e1
    obtain ⟨u, h5, h6⟩ := hs ρ act.eval w (evs_ok hx h3)
    unfold Oper.wp
    rw [h5 o rfl, Oper.upon_value]
    refine hK u w ρ h6 ?_
    rw [h2]
    exact Post.refl hw
  case h_1 v s1 h1 =>
    unfold Oper.wp
    cases h
    rcases aop_sound hw hf hx h1 (by simp) with ⟨v', e1, u, w', ρ', h2, h3, h4⟩ | ⟨_, _, _, e1, _⟩
    · cases e1
      rcases h2 with h2 | ⟨h2, rfl⟩
      · rw [h2, Oper.upon_value]; exact hK u w' ρ' h3 h4
      · rw [h2, Oper.upon_skip]; exact hK _ w' ρ' h3 h4
    · cases e1
  case h_2 f args s1 h1 =>
    unfold Oper.wp
    have hc := doCall_ok h
    have habs := hrec.abs _ _ _ _ _ hc
    have hab1 := aop_abs h1
    rcases aop_sound hw (hf.mono (Nat.le_refl _) habs.next) hx h1 (by simp) with ⟨v', e1, _⟩ | ⟨f', args', us, e1, e2, hp, hv, hr⟩
    · cases e1
    · cases e1
      subst e2
      obtain ⟨v, hv1, hcall⟩ := hrec.sound _ _ _ _ _ hc hp ρ w us hw hf hv
      cases hv1
      rw [hr, Oper.upon_enter]
      refine hcall.mono fun e w' ⟨u, ρ', he, h3, h4⟩ => ?_
      subst he
      exact hK u w' ρ' h3 h4

end
end Go.Am
