/-
  The abstract machine is sound: all of it. What it runs to, the model's call comes to.
-/
import Derived.Test.YtonbcchdaboigaaAm19
namespace Go.Am
open Go Go.RowKit
set_option linter.unusedVariables false

section
variable {σ : Syms} {N0 : Nat} {w0 : World} {P : Program} {prims : Prims} {facts : Facts} {rec : Rec}

theorem stepT_abs (hp : ∀ f p, prims f = some p → PrimOk P σ N0 w0 f p) (hrec : RunOk P σ N0 w0 rec) : ∀ t s d s', stepT P prims facts (drawRun P) rec t s = .ok (d, s') → Abs s s' := by
  have hdo : ∀ {c : Code} {a : AAct} {s : AState} {r : AExit × AAct × AState}, doCode rec c a s = .ok r → Abs s r.2.2 := fun h => hrec.abs _ _ _ _ (doCode_ok h)
  intro t s d s' h
  cases t with
  | call f args =>
    unfold stepT at h
    simp only [] at h
    split at h
    · rename_i p hpf
      replace h := R.bind_ok' h
      obtain ⟨⟨v, s1⟩, h1, h⟩ := h
      cases h
      exact (hp f p hpf).abs _ _ _ _ h1
    · replace h := R.bind_ok' h
      obtain ⟨fn, h1, h⟩ := h
      replace h := R.bind_ok' h
      obtain ⟨body, h2, h⟩ := h
      replace h := R.bind_ok' h
      obtain ⟨_, h3, h⟩ := h
      replace h := R.bind_ok' h
      obtain ⟨⟨e, a1, s1⟩, h4, h⟩ := h
      replace h3 := guardR_ok h3
      simp only [Bool.and_eq_true] at h3
      have hn1 := Nat.le_of_ble_eq_true h3.1
      have hn2 := Nat.le_of_ble_eq_true h3.2
      obtain ⟨t', h5, _⟩ := initTmps_ok h4 (by omega)
      have := hdo h5
      cases e <;> first
        | (replace h := R.bind_ok' h
           obtain ⟨vs, h6, h⟩ := h
           split at h <;> (cases h; exact this))
        | cases h
  | code c a =>
    cases c with
    | skip => cases h; exact Abs.refl _
    | label l => cases h; exact Abs.refl _
    | exit id => cases h; exact Abs.refl _
    | goto l => cases h; exact Abs.refl _
    | ret => cases h; exact Abs.refl _
    | region id ops dr =>
      replace h := R.bind_ok' h
      obtain ⟨⟨a1, s1⟩, h1, h⟩ := h
      cases h
      cases dr with
      | true => exact drawRun_abs hrec.toRec h1
      | false => exact runOps_abs hrec.toRec h1
    | seq x y =>
      replace h := R.bind_ok' h
      obtain ⟨⟨e1, a1, s1⟩, h1, h⟩ := h
      have h2 := hdo h1
      cases e1 <;> first
        | exact h2.trans (hrec.abs _ _ _ _ h)
        | (cases h; exact h2)
    | cond c x y =>
      replace h := R.bind_ok' h
      obtain ⟨v, h1, h⟩ := h
      replace h := R.bind_ok' h
      obtain ⟨b, h2, h⟩ := h
      exact hrec.abs _ _ _ _ h
    | block id x =>
      replace h := R.bind_ok' h
      obtain ⟨⟨e1, a1, s1⟩, h1, h⟩ := h
      have h2 := hdo h1
      cases e1 <;> (cases h; exact h2)
    | loop x =>
      replace h := R.bind_ok' h
      obtain ⟨⟨e1, a1, s1⟩, h1, h⟩ := h
      have h2 := hdo h1
      cases e1 <;> first
        | exact h2.trans (hrec.abs _ _ _ _ h)
        | (cases h; exact h2)
    | scope x => exact hrec.abs _ _ _ _ h
    | _ => cases h
  | ask o vs =>
    unfold stepT at h
    simp only [] at h
    split at h
    · cases h; exact Abs.refl _
    · cases h
  | inscope body c a =>
    replace h := R.bind_ok' h
    obtain ⟨⟨e1, a1, s1⟩, h1, h⟩ := h
    have h2 := hdo h1
    cases e1 with
    | goto l =>
      simp only [] at h
      split at h
      · exact h2.trans (hrec.abs _ _ _ _ h)
      · cases h; exact h2
    | _ => cases h; exact h2

theorem stepT_call (hp : ∀ f p, prims f = some p → PrimOk P σ N0 w0 f p) (hrec : RunOk P σ N0 w0 rec) : ∀ f args s d s', stepT P prims facts (drawRun P) rec (.call f args) s = .ok (d, s') →
    ∀ ρ w (us : Array Value), WRel σ N0 w0 ρ s w → Fresh ρ s.next s'.next → VRels σ ρ args us.toList →
    ∃ v, d = .val v ∧ Calls P f us w (fun e w' => ∃ u ρ', e = .returned u ∧ VRel σ ρ' v u ∧ Post σ N0 w0 ρ s w ρ' s' w') := by
  intro f args s d s' h ρ w us hw hf hv
  unfold stepT at h
  simp only [] at h
  split at h
  · rename_i p hpf
    replace h := R.bind_ok' h
    obtain ⟨⟨v, s1⟩, h1, h⟩ := h
    cases h
    exact ⟨v, rfl, (hp f p hpf).sound _ _ _ _ h1 ρ w us hw hf hv⟩
  · replace h := R.bind_ok' h
    obtain ⟨fn, h1, h⟩ := h
    replace h := R.bind_ok' h
    obtain ⟨body, h2, h⟩ := h
    replace h := R.bind_ok' h
    obtain ⟨_, h3, h⟩ := h
    replace h := R.bind_ok' h
    obtain ⟨⟨e, a1, s1⟩, h4, h⟩ := h
    replace h3 := guardR_ok h3
    simp only [Bool.and_eq_true] at h3
    have hn1 := Nat.le_of_ble_eq_true h3.1
    have hn2 := Nat.le_of_ble_eq_true h3.2
    obtain ⟨t', h5, ht⟩ := initTmps_ok h4 (by omega)
    have h6 := doCode_ok h5
    have hres : ∃ vs, (e = .normal ∨ e = .ret) ∧ resA P a1 s1 fn.results.toList = .ok vs ∧ d = .val (retA vs) ∧ s' = s1 := by
      have fin : ∀ {x : R (List AVal)}, (x >>= fun vs => (match vs with | [v] => R.ok (Done.val v, s1) | vs => R.ok (Done.val (.tup vs), s1) : R (Done × AState))) = .ok (d, s') → ∃ vs, x = .ok vs ∧ d = .val (retA vs) ∧ s' = s1 := fun {x} h => by
        replace h := R.bind_ok' h
        obtain ⟨vs, h7, h⟩ := h
        refine ⟨vs, h7, ?_⟩
        cases vs with
        | nil => cases h; exact ⟨rfl, rfl⟩
        | cons v r => cases r with
          | nil => cases h; exact ⟨rfl, rfl⟩
          | cons v' r' => cases h; exact ⟨rfl, rfl⟩
      cases e with
      | normal => obtain ⟨vs, h7, h8⟩ := fin h; exact ⟨vs, .inl rfl, h7, h8⟩
      | ret => obtain ⟨vs, h7, h8⟩ := fin h; exact ⟨vs, .inr rfl, h7, h8⟩
      | exit id => cases h
      | goto l => cases h
    obtain ⟨vs, he, hr, hd, hs⟩ := hres
    subst hs
    refine ⟨_, hd, calls_of_wp (R.of_ok h1) (R.of_ok h2) ?_⟩
    have ha := ARel.init (n := fn.ntmps) hv hn1 ht
    refine wp_mono (hrec.code _ _ _ _ _ _ h6 ρ w _ ha hw hf) fun e2 act' w' ⟨h8, ρ', h9, h10⟩ => ?_
    obtain ⟨u, h11, h12⟩ := results_ok h9 h10.wrel hr
    have hb : act'.defers = [] ∧ ∃ v, (results fn act'.tmps).run P w' = .ok v w' ∧ ∃ u ρ', Ending.returned v = .returned u ∧ VRel σ ρ' (retA vs) u ∧ Post σ N0 w0 ρ s w ρ' s' w' :=
      ⟨h9.defers, u, h11, u, ρ', rfl, h12, h10⟩
    rcases he with rfl | rfl
    · cases h8; exact hb
    · cases h8; exact hb

theorem stepT_loop (hrec : RunOk P σ N0 w0 rec) : ∀ x a s e a' s', stepT P prims facts (drawRun P) rec (.code (.loop x) a) s = .ok (.out e a', s') → ∀ ρ w act, ARel σ ρ a act → WRel σ N0 w0 ρ s w → Fresh ρ s.next s'.next → ∀ b k cs,
    Comes' P (lone (b.at act (.code x :: .inLoop x :: k)) cs w) b k cs (Out σ N0 w0 ρ s w e a' s') := by
  intro x a s e a' s' h ρ w act ha hw hf b k cs
  replace h := R.bind_ok' h
  obtain ⟨⟨e1, a1, s1⟩, h1, h⟩ := h
  replace h1 := doCode_ok h1
  have hab1 : Abs s s1 := hrec.abs _ _ _ _ h1
  have hab2 : Abs s1 s' := by
    cases e1 <;> first
      | exact hrec.abs _ _ _ _ h
      | (cases h; exact Abs.refl _)
  have hf1 : Fresh ρ s.next s1.next := hf.mono (Nat.le_refl _) hab2.next
  obtain ⟨e2, act1, w1, ⟨hq, ρ1, ha1, hP⟩, harr⟩ := hrec.code _ _ _ _ _ _ h1 ρ w act ha hw hf1 b (.inLoop x :: k) cs
  cases e1 with
  | normal =>
    subst hq
    obtain ⟨e3, act2, w2, hq2, harr2⟩ := hrec.loop _ _ _ _ _ _ h ρ1 w1 act1 ha1 hP.wrel (hP.fresh hf) b k cs
    exact ⟨e3, act2, w2, hq2.of hP hf1, .of_steps (Steps.trans harr (.one step_inLoop)) harr2⟩
  | exit id => cases h; subst hq; exact ⟨_, act1, w1, ⟨rfl, ρ1, ha1, hP⟩, .pass (x := .inLoop x) rfl (fun _ _ => .inl (by simp [AExit.to])) harr⟩
  | goto l => cases h; subst hq; exact ⟨_, act1, w1, ⟨rfl, ρ1, ha1, hP⟩, .pass (x := .inLoop x) rfl (fun _ _ => .inl (by simp [AExit.to])) harr⟩
  | ret => cases h; subst hq; exact ⟨_, act1, w1, ⟨rfl, ρ1, ha1, hP⟩, .pass (x := .inLoop x) rfl (fun _ _ => .inl (by simp [AExit.to])) harr⟩

theorem stepT_scope (hrec : RunOk P σ N0 w0 rec) : ∀ body c a s e a' s', stepT P prims facts (drawRun P) rec (.inscope body c a) s = .ok (.out e a', s') → ∀ ρ w act, ARel σ ρ a act → WRel σ N0 w0 ρ s w → Fresh ρ s.next s'.next → ∀ b k cs,
    Comes' P (lone (b.at act (.code c :: .inScope body :: k)) cs w) b k cs (Out σ N0 w0 ρ s w e a' s') := by
  intro body c a s e a' s' h ρ w act ha hw hf b k cs
  replace h := R.bind_ok' h
  obtain ⟨⟨e1, a1, s1⟩, h1, h⟩ := h
  replace h1 := doCode_ok h1
  have hab1 : Abs s s1 := hrec.abs _ _ _ _ h1
  have hab2 : Abs s1 s' := by
    cases e1 with
    | goto l =>
      simp only [] at h
      split at h
      · exact hrec.abs _ _ _ _ h
      · cases h; exact Abs.refl _
    | _ => cases h; exact Abs.refl _
  have hf1 : Fresh ρ s.next s1.next := hf.mono (Nat.le_refl _) hab2.next
  obtain ⟨e2, act1, w1, ⟨hq, ρ1, ha1, hP⟩, harr⟩ := hrec.code _ _ _ _ _ _ h1 ρ w act ha hw hf1 b (.inScope body :: k) cs
  cases e1 with
  | normal => cases h; subst hq; exact ⟨.normal, act1, w1, ⟨rfl, ρ1, ha1, hP⟩, Steps.trans harr (.one step_inScope)⟩
  | exit id => cases h; subst hq; exact ⟨.exit id, act1, w1, ⟨rfl, ρ1, ha1, hP⟩, fun k' hk => harr k' (by simp [exitTo, hk])⟩
  | ret => cases h; subst hq; exact ⟨.ret, act1, w1, ⟨rfl, ρ1, ha1, hP⟩, harr⟩
  | goto l =>
    subst hq
    simp only [] at h
    split at h
    · rename_i rest hl
      obtain ⟨e3, act2, w2, hq2, harr2⟩ := hrec.scope _ _ _ _ _ _ _ h ρ1 w1 act1 ha1 hP.wrel (hP.fresh hf) b k cs
      exact ⟨e3, act2, w2, hq2.of hP hf1, .of_steps (harr _ (by simp [gotoIn, hl])) harr2⟩
    · rename_i hl
      cases h
      exact ⟨.goto l, act1, w1, ⟨rfl, ρ1, ha1, hP⟩, fun k' hk => harr k' (by simp [gotoIn, hl, hk])⟩

theorem stepT_code (hm : P.follows .mixedOrders = true) (hrec : RunOk P σ N0 w0 rec) : ∀ c a s e a' s', stepT P prims facts (drawRun P) rec (.code c a) s = .ok (.out e a', s') → ∀ ρ w act, ARel σ ρ a act → WRel σ N0 w0 ρ s w → Fresh ρ s.next s'.next →
    c.wp P (Out σ N0 w0 ρ s w e a' s') act w := by
  intro c a s e a' s' h ρ w act ha hw hf
  cases c with
  | skip => cases h; exact wp_skip ⟨rfl, ρ, ha, Post.refl hw⟩
  | label l => cases h; exact wp_label ⟨rfl, ρ, ha, Post.refl hw⟩
  | exit id => cases h; exact wp_exit ⟨rfl, ρ, ha, Post.refl hw⟩
  | goto l => cases h; exact wp_goto ⟨rfl, ρ, ha, Post.refl hw⟩
  | ret => cases h; exact wp_ret ⟨rfl, ρ, ha, Post.refl hw⟩
  | region id ops dr =>
    replace h := R.bind_ok' h
    obtain ⟨⟨a1, s1⟩, h1, h⟩ := h
    cases h
    cases dr with
    | true => exact draw_sound hrec.toRec hm h1 ha hw hf fun act' w' ρ' h2 h3 => ⟨rfl, ρ', h2, h3⟩
    | false => exact wp_region_list (runOps_sound hrec.toRec h1 ha hw hf fun act' w' ρ' h2 h3 => ⟨rfl, ρ', h2, h3⟩)
  | seq x y =>
    replace h := R.bind_ok' h
    obtain ⟨⟨e1, a1, s1⟩, h1, h⟩ := h
    replace h1 := doCode_ok h1
    have hab2 : Abs s1 s' := by
      cases e1 <;> first
        | exact hrec.abs _ _ _ _ h
        | (cases h; exact Abs.refl _)
    have hf1 : Fresh ρ s.next s1.next := hf.mono (Nat.le_refl _) hab2.next
    refine wp_seq (wp_mono (hrec.code _ _ _ _ _ _ h1 ρ w act ha hw hf1) fun e2 act1 w1 hq => ?_)
    obtain ⟨rfl, ρ1, ha1, hP⟩ := hq
    cases e1 with
    | normal => exact wp_mono (hrec.code _ _ _ _ _ _ h ρ1 w1 act1 ha1 hP.wrel (hP.fresh hf)) fun e3 act2 w2 hq2 => hq2.of hP hf1
    | _ => cases h; exact ⟨rfl, ρ1, ha1, hP⟩
  | cond c x y =>
    replace h := R.bind_ok' h
    obtain ⟨v, h1, h⟩ := h
    replace h := R.bind_ok' h
    obtain ⟨b, h2, h⟩ := h
    have hc : act.eval c = .bool b := asBoolLit_ok h2 (aev_of c (fun t v _ hv => ha.get t v hv) v h1)
    refine wp_cond hc ?_
    cases b with
    | true => exact hrec.code _ _ _ _ _ _ h ρ w act ha hw hf
    | false => exact hrec.code _ _ _ _ _ _ h ρ w act ha hw hf
  | block id x =>
    replace h := R.bind_ok' h
    obtain ⟨⟨e1, a1, s1⟩, h1, h⟩ := h
    replace h1 := doCode_ok h1
    have hs : s1 = s' := by cases e1 <;> (cases h; rfl)
    subst hs
    refine wp_block (wp_mono (hrec.code _ _ _ _ _ _ h1 ρ w act ha hw hf) fun e2 act1 w1 hq => ?_)
    obtain ⟨rfl, ρ1, ha1, hP⟩ := hq
    cases e1 with
    | exit id' =>
      cases h
      by_cases hid : id' = id
      · subst hid
        have : Nat.beq id' id' = true := Nat.beq_refl _
        simp only [AExit.to, Exit.inBlock, if_true]
        exact ⟨by rw [this]; rfl, ρ1, ha1, hP⟩
      · have : Nat.beq id' id = false := by
          cases hq : Nat.beq id' id with
          | false => rfl
          | true => exact absurd (Nat.eq_of_beq_eq_true hq) hid
        simp only [AExit.to, Exit.inBlock, hid, if_false]
        exact ⟨by rw [this]; rfl, ρ1, ha1, hP⟩
    | _ => cases h; exact ⟨rfl, ρ1, ha1, hP⟩
  | loop x =>
    intro b k cs
    obtain ⟨e2, act', w', hq, harr⟩ := stepT_loop (prims := prims) (facts := facts) hrec x a s e a' s' h ρ w act ha hw hf b k cs
    exact ⟨e2, act', w', hq, .of_steps (.one step_loop) harr⟩
  | scope x =>
    intro b k cs
    obtain ⟨e2, act', w', hq, harr⟩ := hrec.scope _ _ _ _ _ _ _ h ρ w act ha hw hf b k cs
    exact ⟨e2, act', w', hq, .of_steps (.one step_scope) harr⟩
  | _ => cases h

theorem stepT_ask (hfa : FactsOk P σ facts) : ∀ op vs s d s', stepT P prims facts (drawRun P) rec (.ask op vs) s = .ok (d, s') → (∀ s2, ∃ s3, stepT P prims facts (drawRun P) rec (.ask op vs) s2 = .ok (d, s3)) ∧ ∃ v, d = .val v ∧
    ∀ ρ (e : Operand → Value) w, VRels σ ρ vs (op.operands.toList.map e) → ∃ u, (∀ o : Oper, o.op = op → (execOp e o).run P w = .ok (.value u) w) ∧ VRel σ ρ v u := by
  intro op vs s d s' h
  unfold stepT at h ⊢
  simp only [] at h ⊢
  split at h
  · rename_i v hq
    cases h
    exact ⟨fun s2 => ⟨s2, rfl⟩, v, rfl, hfa op vs v hq⟩
  · cases h

theorem noFacts_ok : FactsOk P σ noFacts := fun op vs v h => by cases h

theorem run_ok (hm : P.follows .mixedOrders = true) (hfa : FactsOk P σ facts) (hp : ∀ f p, prims f = some p → PrimOk P σ N0 w0 f p) : ∀ n, RunOk P σ N0 w0 (run P prims facts (drawRun P) n)
  | 0 => ⟨fun t s d s' h => (by cases h), fun f args s d s' h => (by cases h), fun op vs s d s' h => (by cases h), fun c a s e a' s' h => (by cases h), fun x a s e a' s' h => (by cases h), fun body c a s e a' s' h => (by cases h)⟩
  | n + 1 =>
    have ih := run_ok hm hfa hp n
    ⟨stepT_abs hp ih, fun f args s d s' h _ => stepT_call (facts := facts) hp ih f args s d s' h, stepT_ask (prims := prims) (rec := run P prims facts (drawRun P) n) hfa, stepT_code (prims := prims) (facts := facts) hm ih, stepT_loop (prims := prims) (facts := facts) ih, stepT_scope (prims := prims) (facts := facts) ih⟩

end

/-- What the machine runs to, the call comes to. The arguments are numbers, truth values and the like. -/
theorem calls_of_run {P : Program} {prims : Prims} {facts : Facts} {σ : Syms} (hm : P.follows .mixedOrders = true) (hfa : FactsOk P σ facts) {w : World} (hp : ∀ f p, prims f = some p → PrimOk P σ w.heap.size w f p) {f : FuncId} {args : List AVal} {us : Array Value} {s : AState}
    {n : Nat} {v : AVal} {s' : AState} (hf : plainFn P f = true) (hs : s.heap = .leaf ∧ s.next = 0 ∧ s.ro = 0) (ha : VRels σ (fun _ => none) args us.toList)
    (h : run P prims facts (drawRun P) n (.call f args) s = .ok (.val v, s')) :
    Calls P f us w (fun e w' => ∃ u ρ', e = .returned u ∧ VRel σ ρ' v u ∧ Below w.heap.size w w') := by
  obtain ⟨h1, h2, h3⟩ := hs
  have hleaf : ∀ b, (Tr.leaf : Tr AObj).get b = none := fun b => by cases b <;> rfl
  have hw : WRel σ w.heap.size w (fun _ => none) s w :=
    ⟨Below.refl _ _, Nat.le_refl _, by rw [h2, h3]; exact ⟨Nat.le_refl _, by simp⟩, fun b b' L L' _ _ hl => absurd (by rw [h1]; exact hleaf b) hl, fun b hb => absurd (by rw [h1]; exact hleaf b) hb, fun b L e => (by cases e), fun b o _ L e => (by cases e)⟩
  obtain ⟨v', h4, hc⟩ := (run_ok hm hfa hp n).call f args s _ s' h hf (fun _ => none) w us hw (fun _ _ _ => rfl) ha
  cases h4
  exact hc.mono fun e w' ⟨u, ρ', h5, h6, h7⟩ => ⟨u, ρ', h5, h6, h7.wrel.base⟩

theorem calls_true {P : Program} {prims : Prims} {facts : Facts} {σ : Syms} (hm : P.follows .mixedOrders = true) (hfa : FactsOk P σ facts) {w : World} (hp : ∀ f p, prims f = some p → PrimOk P σ w.heap.size w f p) {f : FuncId} {args : List AVal} {us : Array Value} {s : AState}
    {n : Nat} {s' : AState} {b : Bool} (hf : plainFn P f = true) (hs : s.heap = .leaf ∧ s.next = 0 ∧ s.ro = 0) (ha : VRels σ (fun _ => none) args us.toList)
    (h : run P prims facts (drawRun P) n (.call f args) s = .ok (.val (.lit (.bool b)), s')) :
    Calls P f us w (fun e w' => e = .returned (.bool b) ∧ Below w.heap.size w w') :=
  (calls_of_run hm hfa hp hf hs ha h).mono fun e w' ⟨u, ρ', h1, h2, h3⟩ => ⟨by rw [h1, h2.1], h3⟩

end Go.Am
