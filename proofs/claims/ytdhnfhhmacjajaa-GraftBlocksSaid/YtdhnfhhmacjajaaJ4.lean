/-
  The abstract machine is sound: all of it. What it runs to, the model's call comes to.
-/
import Derived.Test.YtdhnfhhmacjajaaJ3
import Derived.Laws.Tables
import Derived.Test.YtdhnfhhmacjajaaProg
import Derived.KernelRfl
import Derived.Maps.OwnSet
import Derived.Maps.RangeWalk
import Derived.Maps.AppendAt
import Derived.WalkKit
import Derived.WalkSpells
import Derived.StillTailTactics
import Derived.BigQuiet

namespace Go.Am
open Go Go.RowKit
set_option linter.unusedVariables false
set_option linter.unusedSimpArgs false

section
variable {σ : Syms} {N0 : Nat} {w0 : World} {P : Program} {prims : Prims} {facts : Facts} {rec : Rec}

theorem stepT_abs (hp : ∀ f p, prims f = some p → PrimOk P σ N0 w0 f p) (hrec : RunOk P σ N0 w0 rec) : ∀ t s d s', stepT P prims facts (drawRun P) rec t s = .ok (d, s') → Abs s s' := by
  have hdo : ∀ {c : Code} {a : AAct} {s : AState} {r : AExit × AAct × AState}, doCode rec c a s = .ok r → Abs s r.2.2 := fun h => hrec.abs _ _ _ _ (doCode_ok h)
  intro t s d s' h
  cases t with
  | call f args =>
    unfold stepT at h
    simp only [] at h
    split at h
    · rename_i p hpf
      replace h := R.bind_ok' h
      obtain ⟨⟨v, s1⟩, h1, h⟩ := h
      cases h
      exact (hp f p hpf).abs _ _ _ _ h1
    · replace h := R.bind_ok' h
      obtain ⟨fn, h1, h⟩ := h
      replace h := R.bind_ok' h
      obtain ⟨body, h2, h⟩ := h
      replace h := R.bind_ok' h
      obtain ⟨_, h3, h⟩ := h
      replace h := R.bind_ok' h
      obtain ⟨⟨e, a1, s1⟩, h4, h⟩ := h
      replace h3 := guardR_ok h3
      simp only [Bool.and_eq_true] at h3
      have hn1 := Nat.le_of_ble_eq_true h3.1
      have hn2 := Nat.le_of_ble_eq_true h3.2
      obtain ⟨t', h5, _⟩ := initTmps_ok h4 (by omega)
      have := hdo h5
      cases e <;> first
        | (replace h := R.bind_ok' h
           obtain ⟨vs, h6, h⟩ := h
           split at h <;> (cases h; exact this))
        | cases h
  | code c a =>
    cases c with
    | skip => cases h; exact Abs.refl _
    | label l => cases h; exact Abs.refl _
    | exit id => cases h; exact Abs.refl _
    | goto l => cases h; exact Abs.refl _
    | ret => cases h; exact Abs.refl _
    | region id ops dr =>
      replace h := R.bind_ok' h
      obtain ⟨⟨a1, s1⟩, h1, h⟩ := h
      cases h
      cases dr with
      | true => exact drawRun_abs hrec.toRec h1
      | false => exact runOps_abs hrec.toRec h1
    | seq x y =>
      replace h := R.bind_ok' h
      obtain ⟨⟨e1, a1, s1⟩, h1, h⟩ := h
      have h2 := hdo h1
      cases e1 <;> first
        | exact h2.trans (hrec.abs _ _ _ _ h)
        | (cases h; exact h2)
    | cond c x y =>
      replace h := R.bind_ok' h
      obtain ⟨v, h1, h⟩ := h
      replace h := R.bind_ok' h
      obtain ⟨b, h2, h⟩ := h
      exact hrec.abs _ _ _ _ h
    | block id x =>
      replace h := R.bind_ok' h
      obtain ⟨⟨e1, a1, s1⟩, h1, h⟩ := h
      have h2 := hdo h1
      cases e1 <;> (cases h; exact h2)
    | loop x =>
      replace h := R.bind_ok' h
      obtain ⟨⟨e1, a1, s1⟩, h1, h⟩ := h
      have h2 := hdo h1
      cases e1 <;> first
        | exact h2.trans (hrec.abs _ _ _ _ h)
        | (cases h; exact h2)
    | scope x => exact hrec.abs _ _ _ _ h
    | _ => cases h
  | ask o vs =>
    unfold stepT at h
    simp only [] at h
    split at h
    · cases h; exact Abs.refl _
    · cases h
  | inscope body c a =>
    replace h := R.bind_ok' h
    obtain ⟨⟨e1, a1, s1⟩, h1, h⟩ := h
    have h2 := hdo h1
    cases e1 with
    | goto l =>
      simp only [] at h
      split at h
      · exact h2.trans (hrec.abs _ _ _ _ h)
      · cases h; exact h2
    | _ => cases h; exact h2

theorem stepT_call (hp : ∀ f p, prims f = some p → PrimOk P σ N0 w0 f p) (hrec : RunOk P σ N0 w0 rec) : ∀ f args s d s', stepT P prims facts (drawRun P) rec (.call f args) s = .ok (d, s') →
    ∀ ρ w (us : Array Value), WRel σ N0 w0 ρ s w → Fresh ρ s.next s'.next → VRels σ ρ args us.toList →
    ∃ v, d = .val v ∧ Calls P f us w (fun e w' => ∃ u ρ', e = .returned u ∧ VRel σ ρ' v u ∧ Post σ N0 w0 ρ s w ρ' s' w') := by
  intro f args s d s' h ρ w us hw hf hv
  unfold stepT at h
  simp only [] at h
  split at h
  · rename_i p hpf
    replace h := R.bind_ok' h
    obtain ⟨⟨v, s1⟩, h1, h⟩ := h
    cases h
    exact ⟨v, rfl, (hp f p hpf).sound _ _ _ _ h1 ρ w us hw hf hv⟩
  · replace h := R.bind_ok' h
    obtain ⟨fn, h1, h⟩ := h
    replace h := R.bind_ok' h
    obtain ⟨body, h2, h⟩ := h
    replace h := R.bind_ok' h
    obtain ⟨_, h3, h⟩ := h
    replace h := R.bind_ok' h
    obtain ⟨⟨e, a1, s1⟩, h4, h⟩ := h
    replace h3 := guardR_ok h3
    simp only [Bool.and_eq_true] at h3
    have hn1 := Nat.le_of_ble_eq_true h3.1
    have hn2 := Nat.le_of_ble_eq_true h3.2
    obtain ⟨t', h5, ht⟩ := initTmps_ok h4 (by omega)
    have h6 := doCode_ok h5
    have hres : ∃ vs, (e = .normal ∨ e = .ret) ∧ resA P a1 s1 fn.results.toList = .ok vs ∧ d = .val (retA vs) ∧ s' = s1 := by
      have fin : ∀ {x : R (List AVal)}, (x >>= fun vs => (match vs with | [v] => R.ok (Done.val v, s1) | vs => R.ok (Done.val (.tup vs), s1) : R (Done × AState))) = .ok (d, s') → ∃ vs, x = .ok vs ∧ d = .val (retA vs) ∧ s' = s1 := fun {x} h => by
        replace h := R.bind_ok' h
        obtain ⟨vs, h7, h⟩ := h
        refine ⟨vs, h7, ?_⟩
        cases vs with
        | nil => cases h; exact ⟨rfl, rfl⟩
        | cons v r => cases r with
          | nil => cases h; exact ⟨rfl, rfl⟩
          | cons v' r' => cases h; exact ⟨rfl, rfl⟩
      cases e with
      | normal => obtain ⟨vs, h7, h8⟩ := fin h; exact ⟨vs, .inl rfl, h7, h8⟩
      | ret => obtain ⟨vs, h7, h8⟩ := fin h; exact ⟨vs, .inr rfl, h7, h8⟩
      | exit id => cases h
      | goto l => cases h
    obtain ⟨vs, he, hr, hd, hs⟩ := hres
    subst hs
    refine ⟨_, hd, calls_of_wp (R.of_ok h1) (R.of_ok h2) ?_⟩
    have ha := ARel.init (n := fn.ntmps) hv hn1 ht
    refine wp_mono (hrec.code _ _ _ _ _ _ h6 ρ w _ ha hw hf) fun e2 act' w' ⟨h8, ρ', h9, h10⟩ => ?_
    obtain ⟨u, h11, h12⟩ := results_ok h9 h10.wrel hr
    have hb : act'.defers = [] ∧ ∃ v, (results fn act'.tmps).run P w' = .ok v w' ∧ ∃ u ρ', Ending.returned v = .returned u ∧ VRel σ ρ' (retA vs) u ∧ Post σ N0 w0 ρ s w ρ' s' w' :=
      ⟨h9.defers, u, h11, u, ρ', rfl, h12, h10⟩
    rcases he with rfl | rfl
    · cases h8; exact hb
    · cases h8; exact hb

theorem stepT_loop (hrec : RunOk P σ N0 w0 rec) : ∀ x a s e a' s', stepT P prims facts (drawRun P) rec (.code (.loop x) a) s = .ok (.out e a', s') → ∀ ρ w act, ARel σ ρ a act → WRel σ N0 w0 ρ s w → Fresh ρ s.next s'.next → ∀ b k cs,
    Comes' P (lone (b.at act (.code x :: .inLoop x :: k)) cs w) b k cs (Out σ N0 w0 ρ s w e a' s') := by
  intro x a s e a' s' h ρ w act ha hw hf b k cs
  replace h := R.bind_ok' h
  obtain ⟨⟨e1, a1, s1⟩, h1, h⟩ := h
  replace h1 := doCode_ok h1
  have hab1 : Abs s s1 := hrec.abs _ _ _ _ h1
  have hab2 : Abs s1 s' := by
    cases e1 <;> first
      | exact hrec.abs _ _ _ _ h
      | (cases h; exact Abs.refl _)
  have hf1 : Fresh ρ s.next s1.next := hf.mono (Nat.le_refl _) hab2.next
  obtain ⟨e2, act1, w1, ⟨hq, ρ1, ha1, hP⟩, harr⟩ := hrec.code _ _ _ _ _ _ h1 ρ w act ha hw hf1 b (.inLoop x :: k) cs
  cases e1 with
  | normal =>
    subst hq
    obtain ⟨e3, act2, w2, hq2, harr2⟩ := hrec.loop _ _ _ _ _ _ h ρ1 w1 act1 ha1 hP.wrel (hP.fresh hf) b k cs
    exact ⟨e3, act2, w2, hq2.of hP hf1, .of_steps (Steps.trans harr (.one step_inLoop)) harr2⟩
  | exit id => cases h; subst hq; exact ⟨_, act1, w1, ⟨rfl, ρ1, ha1, hP⟩, .pass (x := .inLoop x) rfl (fun _ _ => .inl (by simp [AExit.to])) harr⟩
  | goto l => cases h; subst hq; exact ⟨_, act1, w1, ⟨rfl, ρ1, ha1, hP⟩, .pass (x := .inLoop x) rfl (fun _ _ => .inl (by simp [AExit.to])) harr⟩
  | ret => cases h; subst hq; exact ⟨_, act1, w1, ⟨rfl, ρ1, ha1, hP⟩, .pass (x := .inLoop x) rfl (fun _ _ => .inl (by simp [AExit.to])) harr⟩

theorem stepT_scope (hrec : RunOk P σ N0 w0 rec) : ∀ body c a s e a' s', stepT P prims facts (drawRun P) rec (.inscope body c a) s = .ok (.out e a', s') → ∀ ρ w act, ARel σ ρ a act → WRel σ N0 w0 ρ s w → Fresh ρ s.next s'.next → ∀ b k cs,
    Comes' P (lone (b.at act (.code c :: .inScope body :: k)) cs w) b k cs (Out σ N0 w0 ρ s w e a' s') := by
  intro body c a s e a' s' h ρ w act ha hw hf b k cs
  replace h := R.bind_ok' h
  obtain ⟨⟨e1, a1, s1⟩, h1, h⟩ := h
  replace h1 := doCode_ok h1
  have hab1 : Abs s s1 := hrec.abs _ _ _ _ h1
  have hab2 : Abs s1 s' := by
    cases e1 with
    | goto l =>
      simp only [] at h
      split at h
      · exact hrec.abs _ _ _ _ h
      · cases h; exact Abs.refl _
    | _ => cases h; exact Abs.refl _
  have hf1 : Fresh ρ s.next s1.next := hf.mono (Nat.le_refl _) hab2.next
  obtain ⟨e2, act1, w1, ⟨hq, ρ1, ha1, hP⟩, harr⟩ := hrec.code _ _ _ _ _ _ h1 ρ w act ha hw hf1 b (.inScope body :: k) cs
  cases e1 with
  | normal => cases h; subst hq; exact ⟨.normal, act1, w1, ⟨rfl, ρ1, ha1, hP⟩, Steps.trans harr (.one step_inScope)⟩
  | exit id => cases h; subst hq; exact ⟨.exit id, act1, w1, ⟨rfl, ρ1, ha1, hP⟩, fun k' hk => harr k' (by simp [exitTo, hk])⟩
  | ret => cases h; subst hq; exact ⟨.ret, act1, w1, ⟨rfl, ρ1, ha1, hP⟩, harr⟩
  | goto l =>
    subst hq
    simp only [] at h
    split at h
    · rename_i rest hl
      obtain ⟨e3, act2, w2, hq2, harr2⟩ := hrec.scope _ _ _ _ _ _ _ h ρ1 w1 act1 ha1 hP.wrel (hP.fresh hf) b k cs
      exact ⟨e3, act2, w2, hq2.of hP hf1, .of_steps (harr _ (by simp [gotoIn, hl])) harr2⟩
    · rename_i hl
      cases h
      exact ⟨.goto l, act1, w1, ⟨rfl, ρ1, ha1, hP⟩, fun k' hk => harr k' (by simp [gotoIn, hl, hk])⟩

theorem stepT_code (hm : P.follows .mixedOrders = true) (hrec : RunOk P σ N0 w0 rec) : ∀ c a s e a' s', stepT P prims facts (drawRun P) rec (.code c a) s = .ok (.out e a', s') → ∀ ρ w act, ARel σ ρ a act → WRel σ N0 w0 ρ s w → Fresh ρ s.next s'.next →
    c.wp P (Out σ N0 w0 ρ s w e a' s') act w := by
  intro c a s e a' s' h ρ w act ha hw hf
  cases c with
  | skip => cases h; exact wp_skip ⟨rfl, ρ, ha, Post.refl hw⟩
  | label l => cases h; exact wp_label ⟨rfl, ρ, ha, Post.refl hw⟩
  | exit id => cases h; exact wp_exit ⟨rfl, ρ, ha, Post.refl hw⟩
  | goto l => cases h; exact wp_goto ⟨rfl, ρ, ha, Post.refl hw⟩
  | ret => cases h; exact wp_ret ⟨rfl, ρ, ha, Post.refl hw⟩
  | region id ops dr =>
    replace h := R.bind_ok' h
    obtain ⟨⟨a1, s1⟩, h1, h⟩ := h
    cases h
    cases dr with
    | true => exact draw_sound hrec.toRec hm h1 ha hw hf fun act' w' ρ' h2 h3 => ⟨rfl, ρ', h2, h3⟩
    | false => exact wp_region_list (runOps_sound hrec.toRec h1 ha hw hf fun act' w' ρ' h2 h3 => ⟨rfl, ρ', h2, h3⟩)
  | seq x y =>
    replace h := R.bind_ok' h
    obtain ⟨⟨e1, a1, s1⟩, h1, h⟩ := h
    replace h1 := doCode_ok h1
    have hab2 : Abs s1 s' := by
      cases e1 <;> first
        | exact hrec.abs _ _ _ _ h
        | (cases h; exact Abs.refl _)
    have hf1 : Fresh ρ s.next s1.next := hf.mono (Nat.le_refl _) hab2.next
    refine wp_seq (wp_mono (hrec.code _ _ _ _ _ _ h1 ρ w act ha hw hf1) fun e2 act1 w1 hq => ?_)
    obtain ⟨rfl, ρ1, ha1, hP⟩ := hq
    cases e1 with
    | normal => exact wp_mono (hrec.code _ _ _ _ _ _ h ρ1 w1 act1 ha1 hP.wrel (hP.fresh hf)) fun e3 act2 w2 hq2 => hq2.of hP hf1
    | _ => cases h; exact ⟨rfl, ρ1, ha1, hP⟩
  | cond c x y =>
    replace h := R.bind_ok' h
    obtain ⟨v, h1, h⟩ := h
    replace h := R.bind_ok' h
    obtain ⟨b, h2, h⟩ := h
    have hc : act.eval c = .bool b := asBoolLit_ok h2 (aev_of c (fun t v _ hv => ha.get t v hv) v h1)
    refine wp_cond hc ?_
    cases b with
    | true => exact hrec.code _ _ _ _ _ _ h ρ w act ha hw hf
    | false => exact hrec.code _ _ _ _ _ _ h ρ w act ha hw hf
  | block id x =>
    replace h := R.bind_ok' h
    obtain ⟨⟨e1, a1, s1⟩, h1, h⟩ := h
    replace h1 := doCode_ok h1
    have hs : s1 = s' := by cases e1 <;> (cases h; rfl)
    subst hs
    refine wp_block (wp_mono (hrec.code _ _ _ _ _ _ h1 ρ w act ha hw hf) fun e2 act1 w1 hq => ?_)
    obtain ⟨rfl, ρ1, ha1, hP⟩ := hq
    cases e1 with
    | exit id' =>
      cases h
      by_cases hid : id' = id
      · subst hid
        have : Nat.beq id' id' = true := Nat.beq_refl _
        simp only [AExit.to, Exit.inBlock, if_true]
        exact ⟨by rw [this]; rfl, ρ1, ha1, hP⟩
      · have : Nat.beq id' id = false := by
          cases hq : Nat.beq id' id with
          | false => rfl
          | true => exact absurd (Nat.eq_of_beq_eq_true hq) hid
        simp only [AExit.to, Exit.inBlock, hid, if_false]
        exact ⟨by rw [this]; rfl, ρ1, ha1, hP⟩
    | _ => cases h; exact ⟨rfl, ρ1, ha1, hP⟩
  | loop x =>
    intro b k cs
    obtain ⟨e2, act', w', hq, harr⟩ := stepT_loop (prims := prims) (facts := facts) hrec x a s e a' s' h ρ w act ha hw hf b k cs
    exact ⟨e2, act', w', hq, .of_steps (.one step_loop) harr⟩
  | scope x =>
    intro b k cs
    obtain ⟨e2, act', w', hq, harr⟩ := hrec.scope _ _ _ _ _ _ _ h ρ w act ha hw hf b k cs
    exact ⟨e2, act', w', hq, .of_steps (.one step_scope) harr⟩
  | _ => cases h

theorem stepT_ask (hfa : FactsOk P σ facts) : ∀ op vs s d s', stepT P prims facts (drawRun P) rec (.ask op vs) s = .ok (d, s') → (∀ s2, ∃ s3, stepT P prims facts (drawRun P) rec (.ask op vs) s2 = .ok (d, s3)) ∧ ∃ v, d = .val v ∧
    ∀ ρ (e : Operand → Value) w, VRels σ ρ vs (op.operands.toList.map e) → ∃ u, (∀ o : Oper, o.op = op → (execOp e o).run P w = .ok (.value u) w) ∧ VRel σ ρ v u := by
  intro op vs s d s' h
  unfold stepT at h ⊢
  simp only [] at h ⊢
  split at h
  · rename_i v hq
    cases h
    exact ⟨fun s2 => ⟨s2, rfl⟩, v, rfl, hfa op vs v hq⟩
  · cases h

theorem noFacts_ok : FactsOk P σ noFacts := fun op vs v h => by cases h

theorem run_ok (hm : P.follows .mixedOrders = true) (hfa : FactsOk P σ facts) (hp : ∀ f p, prims f = some p → PrimOk P σ N0 w0 f p) : ∀ n, RunOk P σ N0 w0 (run P prims facts (drawRun P) n)
  | 0 => ⟨fun t s d s' h => (by cases h), fun f args s d s' h => (by cases h), fun op vs s d s' h => (by cases h), fun c a s e a' s' h => (by cases h), fun x a s e a' s' h => (by cases h), fun body c a s e a' s' h => (by cases h)⟩
  | n + 1 =>
    have ih := run_ok hm hfa hp n
    ⟨stepT_abs hp ih, fun f args s d s' h _ => stepT_call (facts := facts) hp ih f args s d s' h, stepT_ask (prims := prims) (rec := run P prims facts (drawRun P) n) hfa, stepT_code (prims := prims) (facts := facts) hm ih, stepT_loop (prims := prims) (facts := facts) ih, stepT_scope (prims := prims) (facts := facts) ih⟩

end

/-- What the machine runs to, the call comes to. The arguments are numbers, truth values and the like. -/
theorem calls_of_run {P : Program} {prims : Prims} {facts : Facts} {σ : Syms} (hm : P.follows .mixedOrders = true) (hfa : FactsOk P σ facts) {w : World} (hp : ∀ f p, prims f = some p → PrimOk P σ w.heap.size w f p) {f : FuncId} {args : List AVal} {us : Array Value} {s : AState}
    {n : Nat} {v : AVal} {s' : AState} (hf : plainFn P f = true) (hs : s.heap = .leaf ∧ s.next = 0 ∧ s.ro = 0) (ha : VRels σ (fun _ => none) args us.toList)
    (h : run P prims facts (drawRun P) n (.call f args) s = .ok (.val v, s')) :
    Calls P f us w (fun e w' => ∃ u ρ', e = .returned u ∧ VRel σ ρ' v u ∧ Below w.heap.size w w') := by
  obtain ⟨h1, h2, h3⟩ := hs
  have hleaf : ∀ b, (Tr.leaf : Tr AObj).get b = none := fun b => by cases b <;> rfl
  have hw : WRel σ w.heap.size w (fun _ => none) s w :=
    ⟨Below.refl _ _, Nat.le_refl _, by rw [h2, h3]; exact ⟨Nat.le_refl _, by simp⟩, fun b b' L L' _ _ hl => absurd (by rw [h1]; exact hleaf b) hl, fun b hb => absurd (by rw [h1]; exact hleaf b) hb, fun b L e => (by cases e), fun b o _ L e => (by cases e)⟩
  obtain ⟨v', h4, hc⟩ := (run_ok hm hfa hp n).call f args s _ s' h hf (fun _ => none) w us hw (fun _ _ _ => rfl) ha
  cases h4
  exact hc.mono fun e w' ⟨u, ρ', h5, h6, h7⟩ => ⟨u, ρ', h5, h6, h7.wrel.base⟩

theorem calls_true {P : Program} {prims : Prims} {facts : Facts} {σ : Syms} (hm : P.follows .mixedOrders = true) (hfa : FactsOk P σ facts) {w : World} (hp : ∀ f p, prims f = some p → PrimOk P σ w.heap.size w f p) {f : FuncId} {args : List AVal} {us : Array Value} {s : AState}
    {n : Nat} {s' : AState} {b : Bool} (hf : plainFn P f = true) (hs : s.heap = .leaf ∧ s.next = 0 ∧ s.ro = 0) (ha : VRels σ (fun _ => none) args us.toList)
    (h : run P prims facts (drawRun P) n (.call f args) s = .ok (.val (.lit (.bool b)), s')) :
    Calls P f us w (fun e w' => e = .returned (.bool b) ∧ Below w.heap.size w w') :=
  (calls_of_run hm hfa hp hf hs ha h).mono fun e w' ⟨u, ρ', h1, h2, h3⟩ => ⟨by rw [h1, h2.1], h3⟩

end Go.Am


/-
  Regions that draw their order, by a relation that each operation keeps; maps whose keys are pairs of numbers.
-/
namespace Go.Am
open Go Go.RowKit
set_option linter.unusedVariables false
set_option linter.unusedSimpArgs false

section
variable {P : Program} {ops : Array Oper}

theorem ready_nil (he : edgesBack ops.toList = true) {listed : Array Bool} (hsz : listed.size = ops.size) (hr : Region.ready .any ops listed = []) : ∀ j, j < ops.size → Lst listed j := by
  intro j
  induction j using Nat.strongRecOn with
  | _ j ih =>
    intro hj
    cases hq : listed.getD j false with
    | true => exact hq
    | false =>
      exfalso
      have hmem : j ∈ Region.ready .any ops listed := by
        unfold Region.ready
        rw [List.mem_filter]
        refine ⟨by simp [hj], ?_⟩
        have h1 : listed.getD j true = false := by
          have hjl : j < listed.size := by omega
          simpa [Array.getD, hjl] using hq
        rw [h1]
        simp only [Bool.not_false, Bool.true_and]
        have ho : ops[j]? = some ops[j] := by simp [hj]
        rw [ho]
        simp only [Option.map_some, Option.getD_some]
        rw [Array.all_eq_true_iff_forall_mem]
        intro e he'
        cases hb : Region.binds .any e with
        | false => rfl
        | true =>
          have hej : e.on < j := by
            have h2 := List.all_eq_true.1 he (ops[j], j) (by rw [List.mem_zipIdx_iff_getElem?]; simp)
            have h3 := List.all_eq_true.1 h2 e (by simp [he'])
            simp only [hb, Bool.not_true, Bool.false_or] at h3
            exact Nat.le_of_ble_eq_true h3
          have := ih e.on hej (by omega)
          unfold Lst at this
          rw [this]
          rfl
      rw [hr] at hmem
      simp at hmem

theorem wpAny_inv (he : edgesBack ops.toList = true) {Q : Exit → Act → World → Prop} (J : Array Bool → Act → World → Prop)
    (step : ∀ listed act w j o, listed.size = ops.size → J listed act w → ops[j]? = some o → ¬ Lst listed j → (∀ e ∈ o.after.toList, Region.binds .any e = true → Lst listed e.on) →
      wpOp P ops Q j (fun a w => J (listed.setIfInBounds j true) a w) act w)
    (fin : ∀ listed act w, J listed act w → (∀ j, j < ops.size → Lst listed j) → Q .normal act w) :
    ∀ (fuel : Nat) (listed : Array Bool) (act : Act) (w : World), cnt ops.size listed ≤ fuel → listed.size = ops.size → J listed act w → wpAny P .any ops Q fuel listed act w := by
  intro fuel
  induction fuel with
  | zero =>
    intro listed act w hcnt hsz hI
    have hr : Region.ready .any ops listed = [] := by
      cases hq : Region.ready .any ops listed with
      | nil => rfl
      | cons j r =>
        exfalso
        obtain ⟨o, ho, hl, _⟩ := mem_ready (listed := listed) (j := j) (ops := ops) (by rw [hq]; simp) hsz
        have hj : j < ops.size := (Array.getElem?_eq_some_iff.1 ho).1
        have : j ∈ (List.range ops.size).filter fun i => listed.getD i true == false := by
          rw [List.mem_filter]
          refine ⟨by simp [hj], ?_⟩
          have hjl : j < listed.size := by rw [hsz]; exact hj
          unfold Lst at hl
          simp [Array.getD, hjl] at hl ⊢
          exact hl
        unfold cnt at hcnt
        have h0 := List.length_eq_zero_iff.1 (Nat.le_zero.1 hcnt)
        rw [h0] at this
        simp at this
    exact ⟨hr, fin listed act w hI (ready_nil he hsz hr)⟩
  | succ fuel ih =>
    intro listed act w hcnt hsz hI
    refine ⟨fun hr => fin listed act w hI (ready_nil he hsz hr), fun j hj => ?_⟩
    obtain ⟨o, ho, hl, hall⟩ := mem_ready hj hsz
    have hjn : j < ops.size := (Array.getElem?_eq_some_iff.1 ho).1
    have hjl : j < listed.size := by rw [hsz]; exact hjn
    refine wpOp_mono (fun act' w' hI' => ih _ _ _ ?_ (by simp [hsz]) hI') (step listed act w j o hsz hI ho hl hall)
    have : cnt ops.size (listed.setIfInBounds j true) < cnt ops.size listed := by
      unfold cnt
      refine filter_lt _ (fun x hx hq => ?_) ⟨j, by simp [hjn], ?_, ?_⟩
      · by_cases hxj : j = x
        · subst hxj; simp [Array.getD, hjl] at hq
        · rwa [getD_set_ne true hxj] at hq
      · unfold Lst at hl
        simp [Array.getD, hjl] at hl ⊢
        exact hl
      · simp [Array.getD, hjl]
    omega

theorem region_inv (hm : P.follows .mixedOrders = true) (he : edgesBack ops.toList = true) {Q : Exit → Act → World → Prop} (J : Array Bool → Act → World → Prop) {act : Act} {w : World} (h0 : J (Array.replicate ops.size false) act { w with drawn := w.drawn + 1 })
    (step : ∀ listed act w j o, listed.size = ops.size → J listed act w → ops[j]? = some o → ¬ Lst listed j → (∀ e ∈ o.after.toList, Region.binds .any e = true → Lst listed e.on) →
      wpOp P ops Q j (fun a w => J (listed.setIfInBounds j true) a w) act w)
    (fin : ∀ listed act w, J listed act w → (∀ j, j < ops.size → Lst listed j) → Q .normal act w) {id : Nat} : (Code.region id ops true).wp P Q act w :=
  wp_region_any hm (wpAny_inv he J step fin ops.size _ act _ (Nat.le_trans (List.length_filter_le _ _) (by simp)) (by simp) h0)

end

/-! ### Pairs of numbers as keys -/
section
variable {P : Program} {tA tM tI : TypeId}

structure Pairs (P : Program) (tA tM tI : TypeId) : Prop where
  arr : P.underlying tA = some (.array 2 tI)
  int : P.underlying tI = some (.int .i64)
  map : P.underlying tM = some (.map tA tI)
  size : (P.info? tI).map (·.size) = some 1
  zero : ∀ w, (zeroValue tI).run P w = .ok (.int .i64 0) w
  built : ∀ a b : Int, P.built tA [(0, .int .i64 a), (1, .int .i64 b)] = some #[.int .i64 a, .int .i64 b]

def pairV (a b : Int) : Value := .agg #[.int .i64 a, .int .i64 b]

structure Ent where
  a : Int
  b : Int
  v : Int
  born : Nat

def Ent.to (e : Ent) : MapEntry := { key := pairV e.a e.b, val := .int .i64 e.v, born := e.born }

theorem Pairs.part (h : Pairs P tA tM tI) (a b : Int) (w : World) : (part tI #[.int .i64 a, .int .i64 b] (0 * 1)).run P w = .ok (.int .i64 a) w ∧ (part tI #[.int .i64 a, .int .i64 b] (1 * 1)).run P w = .ok (.int .i64 b) w := by
  have hagg : (isAgg tI).run P w = .ok false w := by
    unfold isAgg; rw [Sem.run_bind, run_underlying h.int]; rfl
  exact ⟨by simp [Go.part, hagg], by simp [Go.part, hagg]⟩

theorem Pairs.sizeOf (h : Pairs P tA tM tI) (w : World) : (sizeOf tI).run P w = .ok 1 w := by
  obtain ⟨i0, hi0, hi1⟩ := Option.map_eq_some_iff.1 h.size
  simp [Go.sizeOf, typeInfo, hi0, hi1]

theorem Pairs.equal (h : Pairs P tA tM tI) (a b c d : Int) (w : World) : (Op.equal tA (pairV a b) (pairV c d)).run P w = .ok (a == c && b == d) w := by
  show (Op.equalIn (9998 + 2) tA (.agg #[.int .i64 a, .int .i64 b]) (.agg #[.int .i64 c, .int .i64 d])).run P w = _
  unfold Op.equalIn
  rw [Sem.run_bind, run_underlying h.arr, Result.andThen_ok]
  simp only [Sem.run_bind, h.sizeOf, Result.andThen_ok, Std.Legacy.Range.forIn_eq_forIn_range']
  have hr : List.range' 0 ((2 - 0 + 1 - 1) / 1) 1 = [0, 1] := rfl
  simp only [Std.Legacy.Range.size] at *
  rw [hr]
  simp only [List.forIn_cons, List.forIn_nil, Sem.run_bind, (h.part _ _ _).1, Result.andThen_ok, run_equalIn_int w 9998 tI .i64 .i64 _ _ h.int]
  cases hq : (a == c) with
  | false => simp
  | true =>
    simp only [Bool.true_and, Bool.not_true, Bool.false_eq_true, if_false, Sem.run_pure, Sem.run_bind, Result.andThen_ok, (h.part _ _ _).2, run_equalIn_int w 9998 tI .i64 .i64 _ _ h.int]
    cases hq2 : (b == d) <;> simp

theorem Pairs.check (h : Pairs P tA tM tI) (e : Bool) (a b : Int) (w : World) : (Instr.checkKey e 10000 tA (pairV a b)).run P w = .ok () w := by
  show (Instr.checkKey e (9998 + 2) tA (.agg #[.int .i64 a, .int .i64 b])).run P w = _
  unfold Instr.checkKey
  rw [Sem.run_bind, run_underlying h.arr, Result.andThen_ok]
  simp only [Std.Legacy.Range.forIn_eq_forIn_range', Std.Legacy.Range.size]
  have hr : List.range' 0 ((2 - 0 + 1 - 1) / 1) 1 = [0, 1] := rfl
  rw [hr]
  simp only [List.forIn_cons, List.forIn_nil, Sem.run_bind, Sem.run_pure, h.sizeOf, (h.part _ _ _).1, (h.part _ _ _).2, Result.andThen_ok, checkKey_int e 9998 h.int]

def look (a b : Int) : List Ent → Option Int
  | [] => none
  | e :: r => if a == e.a && b == e.b then some e.v else look a b r

def place (a b : Int) : List Ent → Nat → Option (Nat × Value)
  | [], _ => none
  | e :: r, i => if a == e.a && b == e.b then some (i, .int .i64 e.v) else place a b r (i + 1)

theorem place_look (a b : Int) : ∀ (E : List Ent) (i : Nat), (place a b E i).map (·.2) = (look a b E).map (Value.int .i64 ·)
  | [], i => rfl
  | e :: r, i => by
    simp only [place, look]
    cases hq : (a == e.a && b == e.b) with
    | true => rfl
    | false => exact place_look a b r (i + 1)

theorem Pairs.asking (h : Pairs P tA tM tI) (a b : Int) (w : World) : ∀ (E : List Ent) (i : Nat), (Instr.findAsking tA (pairV a b) (E.map Ent.to) i).run P w = .ok (place a b E i) w
  | [], i => by simp [Instr.findAsking, place]
  | e :: r, i => by
    simp only [List.map_cons, Instr.findAsking, Sem.run_bind]
    have : (Op.equal tA (pairV a b) e.to.key).run P w = .ok (a == e.a && b == e.b) w := h.equal a b e.a e.b w
    rw [this, Result.andThen_ok]
    simp only [place]
    cases hq : (a == e.a && b == e.b) with
    | true => simp [Ent.to]
    | false => simpa using h.asking a b w r (i + 1)

theorem Pairs.find (h : Pairs P tA tM tI) (a b : Int) (w : World) (E : List Ent) : (Instr.findKey tA (pairV a b) (E.map Ent.to)).run P w = .ok (place a b E 0) w := by
  unfold Instr.findKey
  rw [Sem.run_bind, run_underlying h.arr, Result.andThen_ok]
  cases E with
  | nil => simp [Instr.findNow, place]
  | cons e r =>
    have : Instr.findNow (.array 2 tI) (pairV a b) ((e :: r).map Ent.to) 0 = none := by
      simp [Instr.findNow, Instr.sameNow]
    rw [this]
    exact h.asking a b w (e :: r) 0

theorem Pairs.lookup (h : Pairs P tA tM tI) (a b : Int) {w : World} {r c : Nat} {E : List Ent} (hw : w.heap[r]? = some (.map (E.map Ent.to).toArray c)) :
    (Instr.lookup tM (.map (some r)) (pairV a b) true).run P w = .ok (.tuple #[.int .i64 ((look a b E).getD 0), .bool (look a b E).isSome]) w := by
  have hpl := place_look a b E 0
  unfold Instr.lookup
  rw [Sem.run_bind, run_underlying h.map, Result.andThen_ok]
  simp only [Sem.run_bind, Sem.run_pure, Result.andThen_ok, run_getMap hw, h.check]
  rw [h.find]
  simp only [Result.andThen_ok]
  cases hq : place a b E 0 with
  | none =>
    rw [hq] at hpl
    cases hl : look a b E with
    | some v => rw [hl] at hpl; cases hpl
    | none => simp [h.zero]
  | some p =>
    rw [hq] at hpl
    cases hl : look a b E with
    | none => rw [hl] at hpl; cases hpl
    | some v =>
      rw [hl] at hpl
      simp at hpl
      simp [hpl]

theorem Pairs.update (h : Pairs P tA tM tI) (a b v : Int) {w : World} {r c : Nat} {E : List Ent} (hw : w.heap[r]? = some (.map (E.map Ent.to).toArray c)) (hn : look a b E = none) :
    (Instr.mapUpdate tM (.map (some r)) (pairV a b) (.int .i64 v)).run P w = .ok () (World.setObj w r (.map ((E ++ [Ent.mk a b v c]).map Ent.to).toArray (c + 1))) := by
  have hpl := place_look a b E 0
  unfold Instr.mapUpdate
  rw [Sem.run_bind, run_underlying h.map, Result.andThen_ok]
  simp only [Sem.run_bind, Result.andThen_ok, run_getMap hw, h.check]
  rw [h.find]
  simp only [Result.andThen_ok]
  cases hq : place a b E 0 with
  | some p => rw [hq, hn] at hpl; cases hpl
  | none =>
    simp only []
    rw [run_setMap hw]
    simp [Ent.to]

end
end Go.Am


/-
  The phases' table: what the map of the steps holds, in whatever order it was filled, and what is looked up in it.
-/
namespace Go.Am
open Go Go.RowKit
set_option linter.unusedVariables false
set_option linter.unusedSimpArgs false

def phaseTab : List (Int × Int × Int) := [(1, 1, 2), (1, 3, 2), (2, 2, 3), (2, 4, 1), (2, 7, 1), (2, 6, 5), (2, 8, 4), (3, 5, 2), (3, 8, 3), (4, 1, 2), (5, 1, 2)]

/-- What the operations of the map's region are. -/
inductive Shape (tA tM : TypeId) : Nat → Oper → Prop
  | make (o : Oper) (h1 : o.dst = some 1) (h2 : o.op = .makeMap tM none) (h3 : o.guard = none) : Shape tA tM 0 o
  | build (o : Oper) (i : Nat) (a b v : Int) (h0 : phaseTab[i]? = some (a, b, v)) (h1 : o.dst = some (i + 2)) (h2 : o.op = .build tA #[(0, .const (.int .i64 a)), (1, .const (.int .i64 b))]) (h3 : o.guard = none) : Shape tA tM (2 * i + 1) o
  | insert (o : Oper) (i : Nat) (a b v : Int) (h0 : phaseTab[i]? = some (a, b, v)) (h1 : o.dst = none) (h2 : o.op = .insert tM (.tmp 1) (.tmp (i + 2)) (.const (.int .i64 v))) (h3 : o.guard = none)
      (h4 : o.after.toList[0]? = some ⟨0, .data⟩) (h5 : o.after.toList[1]? = some ⟨2 * i + 1, .data⟩) : Shape tA tM (2 * i + 2) o
  | move (o : Oper) (h1 : o.dst = some 13) (h2 : o.op = .move (.tmp 1)) (h3 : o.guard = none) (h4 : o.after.toList[0]? = some ⟨0, .data⟩) : Shape tA tM 23 o
  | assign (o : Oper) (h1 : o.dst = some 0) (h2 : o.op = .assign (.tmp 13)) (h3 : o.guard = none) (h4 : o.after.toList[0]? = some ⟨23, .data⟩) : Shape tA tM 24 o

def tabEnts : List Ent := phaseTab.map fun p => Ent.mk p.1 p.2.1 p.2.2 0

def tabLook (a b : Int) : Option Int := look a b tabEnts

section
variable {P : Program} {tA tM tI : TypeId} {ops : Array Oper} {Q : Exit → Act → World → Prop}

theorem wpOp_value {j : Nat} {o : Oper} {act : Act} {w w' : World} {u : Value} {K : Act → World → Prop} (ho : ops[j]? = some o) (hg : o.guard = none) (h : (execOp act.eval o).run P w = .ok (.value u) w') (hK : K (act.put o.dst u) w') : wpOp P ops Q j K act w := by
  unfold wpOp
  rw [ho]
  simp only [Region.wanted, hg, if_true]
  left
  unfold Oper.wp
  rw [h, Oper.upon_value]
  exact hK

theorem wpOp_skip {j : Nat} {o : Oper} {act : Act} {w w' : World} {K : Act → World → Prop} (ho : ops[j]? = some o) (hg : o.guard = none) (h : (execOp act.eval o).run P w = .ok .skip w') (hK : K (act.put o.dst undef) w') : wpOp P ops Q j K act w := by
  unfold wpOp
  rw [ho]
  simp only [Region.wanted, hg, if_true]
  left
  unfold Oper.wp
  rw [h, Oper.upon_skip]
  exact hK

theorem look_append (a b : Int) (e : Ent) : ∀ (E : List Ent), look a b (E ++ [e]) = (look a b E).or (if a == e.a && b == e.b then some e.v else none)
  | [] => by simp [look]
  | x :: r => by
    simp only [List.cons_append, look]
    cases hq : (a == x.a && b == x.b) with
    | true => rfl
    | false => simpa using look_append a b e r

structure PJ (w1 : World) (listed : Array Bool) (act : Act) (w : World) : Prop where
  size : act.tmps.size = 14
  defers : act.defers = []
  keys : ∀ (i : Nat) (a b v : Int), phaseTab[i]? = some (a, b, v) → Lst listed (2 * i + 1) → act.tmps[i + 2]? = some (pairV a b)
  rest : w.os = w1.os ∧ w.tape = w1.tape ∧ w.output = w1.output
  pre : ¬ Lst listed 0 → w.heap = w1.heap
  mid : Lst listed 0 → act.tmps[1]? = some (.map (some w1.heap.size)) ∧ ∃ E c, w.heap = w1.heap.push (.map (E.map Ent.to).toArray c) ∧
    (∀ (i : Nat) (a b v : Int), phaseTab[i]? = some (a, b, v) → (Lst listed (2 * i + 2) → look a b E = some v) ∧ (¬ Lst listed (2 * i + 2) → look a b E = none)) ∧
    (∀ (a b : Int), (∀ (i : Nat) (v : Int), phaseTab[i]? ≠ some (a, b, v)) → look a b E = none)
  m13 : Lst listed 23 → act.tmps[13]? = some (.map (some w1.heap.size))
  m0 : Lst listed 24 → act.tmps[0]? = some (.map (some w1.heap.size))

theorem put_get {act : Act} {d t : Nat} {u : Value} (h : t ≠ d) : (act.put (some d) u).tmps[t]? = act.tmps[t]? := by
  rw [tmps_put, if_neg]
  rintro ⟨e, _⟩
  exact h e

theorem put_same {act : Act} {d : Nat} {u : Value} (h : d < act.tmps.size) : (act.put (some d) u).tmps[d]? = some u := by
  rw [tmps_put, if_pos ⟨rfl, h⟩]

theorem put_size {act : Act} {d : Option Nat} {u : Value} : (act.put d u).tmps.size = act.tmps.size := by cases d <;> simp [Act.put]
theorem put_defers {act : Act} {d : Option Nat} {u : Value} : (act.put d u).defers = act.defers := by cases d <;> rfl

theorem tab_lt {i : Nat} {a b v : Int} (h : phaseTab[i]? = some (a, b, v)) : i < 11 := by
  have := (List.getElem?_eq_some_iff.1 h).1
  exact this

theorem tab_inj {i j : Nat} {a b v v' : Int} (h : phaseTab[i]? = some (a, b, v)) (h' : phaseTab[j]? = some (a, b, v')) : i = j := by
  have hi := tab_lt h
  have hj := tab_lt h'
  have key : ∀ i j : Fin 11, ((phaseTab[i.1]?.map fun p => (p.1, p.2.1)) = (phaseTab[j.1]?.map fun p => (p.1, p.2.1))) → i = j := by decide
  have := key ⟨i, hi⟩ ⟨j, hj⟩ (by rw [h, h']; rfl)
  exact congrArg Fin.val this

/-- One of the builds. -/
theorem PJ.build {w1 : World} {listed : Array Bool} {act : Act} {w : World} (J : PJ w1 listed act w) (hsz : listed.size = 25) {i : Nat} {a b v : Int} (hi : phaseTab[i]? = some (a, b, v)) :
    PJ w1 (listed.setIfInBounds (2 * i + 1) true) (act.put (some (i + 2)) (pairV a b)) w := by
  have hi11 := tab_lt hi
  have hls : ∀ {k}, Lst (listed.setIfInBounds (2 * i + 1) true) k ↔ k = 2 * i + 1 ∨ Lst listed k := lst_set (by omega)
  have J1 := J.size
  refine ⟨put_size.trans J.size, put_defers.trans J.defers, fun k a' b' v' hk hl => ?_, J.rest, fun hl => J.pre fun h => hl (hls.2 (.inr h)), fun hl => ?_, fun hl => ?_, fun hl => ?_⟩
  · by_cases hki : k = i
    · subst hki
      rw [hi] at hk
      cases hk
      exact put_same (by omega)
    · rw [put_get (by omega)]
      exact J.keys k a' b' v' hk ((hls.1 hl).resolve_left (by omega))
  · obtain ⟨h1, E, c, h2, h3, h4⟩ := J.mid ((hls.1 hl).resolve_left (by omega))
    refine ⟨by rw [put_get (by omega)]; exact h1, E, c, h2, fun k a' b' v' hk => ⟨fun h => (h3 k a' b' v' hk).1 ((hls.1 h).resolve_left (by omega)), fun h => (h3 k a' b' v' hk).2 fun h' => h (hls.2 (.inr h'))⟩, h4⟩
  · rw [put_get (by omega)]
    exact J.m13 ((hls.1 hl).resolve_left (by omega))
  · rw [put_get (by omega)]
    exact J.m0 ((hls.1 hl).resolve_left (by omega))

/-- The map is made. -/
theorem PJ.make {w1 : World} {listed : Array Bool} {act : Act} {w : World} (J : PJ w1 listed act w) (hsz : listed.size = 25) (h0 : ¬ Lst listed 0) (hn : ∀ i, i < 11 → ¬ Lst listed (2 * i + 2)) :
    PJ w1 (listed.setIfInBounds 0 true) (act.put (some 1) (.map (some w.heap.size))) (w.alloc (.map #[] 0)) := by
  have hls : ∀ {k}, Lst (listed.setIfInBounds 0 true) k ↔ k = 0 ∨ Lst listed k := lst_set (by omega)
  have J1 := J.size
  have J2 := J.pre h0
  refine ⟨put_size.trans J.size, put_defers.trans J.defers, fun k a' b' v' hk hl => ?_, J.rest, fun hl => absurd (hls.2 (.inl rfl)) hl, fun hl => ?_, fun hl => ?_, fun hl => ?_⟩
  · rw [put_get (by omega)]
    exact J.keys k a' b' v' hk ((hls.1 hl).resolve_left (by omega))
  · refine ⟨by rw [put_same (by omega), J2], [], 0, ?_, fun k a' b' v' hk => ⟨fun h => absurd ((hls.1 h).resolve_left (by omega)) (hn k (tab_lt hk)), fun _ => rfl⟩, fun _ _ _ => rfl⟩
    rw [← J2]; rfl
  · rw [put_get (by omega)]
    exact J.m13 ((hls.1 hl).resolve_left (by omega))
  · rw [put_get (by omega)]
    exact J.m0 ((hls.1 hl).resolve_left (by omega))

/-- One of the inserts. -/
theorem PJ.insert {w1 : World} {listed : Array Bool} {act : Act} {w : World} (hp : Pairs P tA tM tI) (J : PJ w1 listed act w) (hsz : listed.size = 25) {i : Nat} {a b v : Int} (hi : phaseTab[i]? = some (a, b, v))
    (h0 : Lst listed 0) (h1 : Lst listed (2 * i + 1)) (hun : ¬ Lst listed (2 * i + 2)) :
    ∃ w', (Instr.mapUpdate tM (act.eval (.tmp 1)) (act.eval (.tmp (i + 2))) (.int .i64 v)).run P w = .ok () w' ∧ PJ w1 (listed.setIfInBounds (2 * i + 2) true) act w' := by
  have hi11 := tab_lt hi
  have hls : ∀ {k}, Lst (listed.setIfInBounds (2 * i + 2) true) k ↔ k = 2 * i + 2 ∨ Lst listed k := lst_set (by omega)
  obtain ⟨g1, E, c, g2, g3, g4⟩ := J.mid h0
  have e1 : act.eval (.tmp 1) = .map (some w1.heap.size) := by simp [Act.eval, g1]
  have e2 : act.eval (.tmp (i + 2)) = pairV a b := by simp [Act.eval, J.keys i a b v hi h1]
  have hget : w.heap[w1.heap.size]? = some (.map (E.map Ent.to).toArray c) := by rw [g2]; simp
  refine ⟨World.setObj w w1.heap.size (.map ((E ++ [Ent.mk a b v c]).map Ent.to).toArray (c + 1)), by rw [e1, e2]; exact hp.update a b v hget ((g3 i a b v hi).2 hun), J.size, J.defers, fun k a' b' v' hk hl => J.keys k a' b' v' hk ((hls.1 hl).resolve_left (by omega)), J.rest, fun hl => absurd (hls.2 (.inr h0)) hl, fun hl => ?_,
    fun hl => J.m13 ((hls.1 hl).resolve_left (by omega)), fun hl => J.m0 ((hls.1 hl).resolve_left (by omega))⟩
  refine ⟨g1, E ++ [Ent.mk a b v c], c + 1, ?_, fun k a' b' v' hk => ?_, fun a' b' hno => ?_⟩
  · simp only [World.setObj, g2]
    apply Array.ext_getElem?
    intro x
    by_cases hx : x = w1.heap.size
    · subst hx; simp
    · rw [Array.getElem?_setIfInBounds_ne (Ne.symm hx), Array.getElem?_push, Array.getElem?_push, if_neg hx, if_neg hx]
  · rw [look_append]
    by_cases hki : k = i
    · subst hki
      rw [hi] at hk
      cases hk
      rw [(g3 k a b v hi).2 hun]
      refine ⟨fun _ => by simp, fun h => absurd (hls.2 (.inl rfl)) h⟩
    · have hne : (a' == a && b' == b) = false := by
        cases hq : (a' == a && b' == b) with
        | false => rfl
        | true =>
          exfalso
          simp only [Bool.and_eq_true, beq_iff_eq] at hq
          obtain ⟨rfl, rfl⟩ := hq
          exact hki (tab_inj hk hi)
      simp only [hne, Bool.false_eq_true, if_false, Option.or_none]
      exact ⟨fun h => (g3 k a' b' v' hk).1 ((hls.1 h).resolve_left (by omega)), fun h => (g3 k a' b' v' hk).2 fun h' => h (hls.2 (.inr h'))⟩
  · rw [look_append, g4 a' b' hno]
    have hne : (a' == a && b' == b) = false := by
      cases hq : (a' == a && b' == b) with
      | false => rfl
      | true =>
        exfalso
        simp only [Bool.and_eq_true, beq_iff_eq] at hq
        obtain ⟨rfl, rfl⟩ := hq
        exact hno i v hi
    simp [hne]

theorem PJ.move13 {w1 : World} {listed : Array Bool} {act : Act} {w : World} (J : PJ w1 listed act w) (hsz : listed.size = 25) (h0 : Lst listed 0) :
    PJ w1 (listed.setIfInBounds 23 true) (act.put (some 13) (act.eval (.tmp 1))) w := by
  have hls : ∀ {k}, Lst (listed.setIfInBounds 23 true) k ↔ k = 23 ∨ Lst listed k := lst_set (by omega)
  obtain ⟨g1, E, c, g2, g3, g4⟩ := J.mid h0
  have J1 := J.size
  have e1 : act.eval (.tmp 1) = .map (some w1.heap.size) := by simp [Act.eval, g1]
  refine ⟨put_size.trans J.size, put_defers.trans J.defers, fun k a' b' v' hk hl => ?_, J.rest, fun hl => absurd (hls.2 (.inr h0)) hl, fun hl => ⟨by rw [put_get (by omega)]; exact g1, E, c, g2, fun k a' b' v' hk => ?_, g4⟩, fun hl => ?_, fun hl => ?_⟩
  · have := tab_lt hk
    rw [put_get (by omega)]
    exact J.keys k a' b' v' hk ((hls.1 hl).resolve_left (by omega))
  · have := tab_lt hk
    exact ⟨fun h => (g3 k a' b' v' hk).1 ((hls.1 h).resolve_left (by omega)), fun h => (g3 k a' b' v' hk).2 fun h' => h (hls.2 (.inr h'))⟩
  · rw [put_same (by omega), e1]
  · rw [put_get (by omega)]
    exact J.m0 ((hls.1 hl).resolve_left (by omega))

theorem PJ.assign0 {w1 : World} {listed : Array Bool} {act : Act} {w : World} (J : PJ w1 listed act w) (hsz : listed.size = 25) (h0 : Lst listed 0) (h23 : Lst listed 23) :
    PJ w1 (listed.setIfInBounds 24 true) (act.put (some 0) (act.eval (.tmp 13))) w := by
  have hls : ∀ {k}, Lst (listed.setIfInBounds 24 true) k ↔ k = 24 ∨ Lst listed k := lst_set (by omega)
  obtain ⟨g1, E, c, g2, g3, g4⟩ := J.mid h0
  have J1 := J.size
  have e1 : act.eval (.tmp 13) = .map (some w1.heap.size) := by simp [Act.eval, J.m13 h23]
  refine ⟨put_size.trans J.size, put_defers.trans J.defers, fun k a' b' v' hk hl => ?_, J.rest, fun hl => absurd (hls.2 (.inr h0)) hl, fun hl => ⟨by rw [put_get (by omega)]; exact g1, E, c, g2, fun k a' b' v' hk => ?_, g4⟩, fun hl => ?_, fun hl => ?_⟩
  · have := tab_lt hk
    rw [put_get (by omega)]
    exact J.keys k a' b' v' hk ((hls.1 hl).resolve_left (by omega))
  · have := tab_lt hk
    exact ⟨fun h => (g3 k a' b' v' hk).1 ((hls.1 h).resolve_left (by omega)), fun h => (g3 k a' b' v' hk).2 fun h' => h (hls.2 (.inr h'))⟩
  · rw [put_get (by omega)]
    exact J.m13 ((hls.1 hl).resolve_left (by omega))
  · rw [put_same (by omega), e1]

/-- The map of the steps, whatever the order. -/
theorem phase_region (hm : P.follows .mixedOrders = true) (hp : Pairs P tA tM tI) (hops : ∀ j o, ops[j]? = some o → Shape tA tM j o) (hn : ops.size = 25) (he : edgesBack ops.toList = true) {act : Act} {w : World} (hs : act.tmps.size = 14) (hd : act.defers = [])
    (hQ : ∀ act' w', act'.defers = [] → act'.tmps[0]? = some (.map (some w.heap.size)) → (∃ E c, w'.heap = w.heap.push (.map (E.map Ent.to).toArray c) ∧ ∀ a b, look a b E = tabLook a b) → w'.os = w.os ∧ w'.tape = w.tape ∧ w'.output = w.output → Q .normal act' w') {id : Nat} :
    (Code.region id ops true).wp P Q act w := by
  have nol : ∀ j, ¬ Lst (Array.replicate ops.size false) j := fun j hj => by
    unfold Lst at hj
    by_cases hjl : j < ops.size <;> simp [Array.getD, hjl] at hj
  have bd : ∀ k, Region.binds .any ⟨k, .data⟩ = true := fun k => rfl
  have hins : ∀ (listed : Array Bool), (∀ j o, ops[j]? = some o → Lst listed j → ∀ e ∈ o.after.toList, Region.binds .any e = true → Lst listed e.on) → ¬ Lst listed 0 → ∀ i, i < 11 → ¬ Lst listed (2 * i + 2) := fun listed hc h0 i hi hl => by
    have key : ∀ j o, ops[j]? = some o → Lst listed j → j = 2 * i + 2 → False := fun j o ho hl hj => by
      have hsh := hops _ _ ho
      cases hsh with
      | make => omega
      | build => omega
      | insert _ i' a b v h0' h1 h2 h3 h4 h5 => exact h0 (hc _ _ ho hl _ (List.mem_of_getElem? h4) (bd _))
      | move => omega
      | assign => omega
    have ho : ops[2 * i + 2]? = some ops[2 * i + 2] := by simp
    exact key _ _ ho hl rfl
  refine region_inv hm he (fun listed act' w' => PJ w listed act' w' ∧ listed.size = ops.size ∧ ∀ j o, ops[j]? = some o → Lst listed j → ∀ e ∈ o.after.toList, Region.binds .any e = true → Lst listed e.on) ?_ ?_ ?_
  · refine ⟨⟨hs, hd, fun i a b v _ hl => absurd hl (nol _), ⟨rfl, rfl, rfl⟩, fun _ => rfl, fun hl => absurd hl (nol _), fun hl => absurd hl (nol _), fun hl => absurd hl (nol _)⟩, by simp, fun j o _ hl => absurd hl (nol j)⟩
  · intro listed act w2 j o hsz ⟨J, _, hc⟩ ho hl hall
    have hsz' : listed.size = 25 := by omega
    have hjn : j < listed.size := by have := (Array.getElem?_eq_some_iff.1 ho).1; omega
    have hc' : ∀ k ok, ops[k]? = some ok → Lst (listed.setIfInBounds j true) k → ∀ e ∈ ok.after.toList, Region.binds .any e = true → Lst (listed.setIfInBounds j true) e.on := fun k ok hk hkl e he' hb => by
      refine (lst_set hjn).2 (.inr ?_)
      rcases (lst_set hjn).1 hkl with rfl | hkl
      · rw [ho] at hk; cases hk; exact hall e he' hb
      · exact hc k ok hk hkl e he' hb
    have hsz2 : (listed.setIfInBounds j true).size = ops.size := by simp [hsz]
    have hsh := hops _ _ ho
    cases hsh with
    | make _ h1 h2 h3 =>
      refine wpOp_value (u := .map (some w2.heap.size)) (w' := w2.alloc (.map #[] 0)) ho h3 ?_ ?_
      · unfold execOp; rw [h2]; simp [Instr.makeMap]
      · rw [h1]; exact ⟨J.make hsz' hl (hins listed hc hl), hsz2, hc'⟩
    | build _ i a b v h0 h1 h2 h3 =>
      refine wpOp_value (u := pairV a b) (w' := w2) ho h3 ?_ ?_
      · have hb := run_build w2 tA #[(0, .int .i64 a), (1, .int .i64 b)] _ (hp.built a b)
        unfold execOp
        rw [h2]
        show Sem.run P (do pure (Next.value (← Instr.build tA (Array.map (fun (p : Nat × Operand) => (p.1, act.eval p.2)) #[(0, .const (.int .i64 a)), (1, .const (.int .i64 b))])))) w2 = _
        have e : Array.map (fun (p : Nat × Operand) => (p.1, act.eval p.2)) #[(0, .const (.int .i64 a)), (1, .const (.int .i64 b))] = #[(0, .int .i64 a), (1, .int .i64 b)] := by simp [Act.eval]
        rw [e]
        rw [Sem.run_bind, hb]
        rfl
      · rw [h1]; exact ⟨J.build hsz' h0, hsz2, hc'⟩
    | insert _ i a b v h0 h1 h2 h3 h4 h5 =>
      obtain ⟨w', g1, g2⟩ := J.insert hp hsz' h0 (hall _ (List.mem_of_getElem? h4) (bd _)) (hall _ (List.mem_of_getElem? h5) (bd _)) hl
      refine wpOp_skip (w' := w') ho h3 ?_ ?_
      · unfold execOp
        rw [h2]
        show Sem.run P (do Instr.mapUpdate tM (act.eval (.tmp 1)) (act.eval (.tmp (i + 2))) (.int .i64 v); pure Next.skip) w2 = _
        rw [Sem.run_bind, g1]
        rfl
      · rw [h1]; exact ⟨g2, hsz2, hc'⟩
    | move _ h1 h2 h3 h4 =>
      refine wpOp_value (u := act.eval (.tmp 1)) (w' := w2) ho h3 ?_ ?_
      · unfold execOp; rw [h2]; rfl
      · rw [h1]; exact ⟨J.move13 hsz' (hall _ (List.mem_of_getElem? h4) (bd _)), hsz2, hc'⟩
    | assign _ h1 h2 h3 h4 =>
      refine wpOp_value (u := act.eval (.tmp 13)) (w' := w2) ho h3 ?_ ?_
      · unfold execOp; rw [h2]; rfl
      · have h23 := hall _ (List.mem_of_getElem? h4) (bd _)
        have h0 : Lst listed 0 := by
          by_cases h0 : Lst listed 0
          · exact h0
          · exfalso
            have key : ∀ j o, ops[j]? = some o → Lst listed j → j = 23 → False := fun j o ho hl hj => by
              have hsh := hops _ _ ho
              cases hsh with
              | make => omega
              | build _ i _ _ _ h0' => have := tab_lt h0'; omega
              | insert => omega
              | move _ _ _ _ h4 => exact h0 (hc _ _ ho hl _ (List.mem_of_getElem? h4) (bd _))
              | assign => omega
            have ho23 : ops[23]? = some ops[23] := by simp
            exact key _ _ ho23 h23 rfl
        rw [h1]; exact ⟨J.assign0 hsz' h0 h23, hsz2, hc'⟩
  · intro listed act w2 ⟨J, hsz, _⟩ hl
    obtain ⟨g1, E, c, g2, g3, g4⟩ := J.mid (hl 0 (by omega))
    refine hQ act w2 J.defers (J.m0 (hl 24 (by omega))) ⟨E, c, g2, fun a b => ?_⟩ J.rest
    by_cases h : ∃ (i : Nat) (v : Int), phaseTab[i]? = some (a, b, v)
    · obtain ⟨i, v, hi⟩ := h
      have hi11 := tab_lt hi
      rw [(g3 i a b v hi).1 (hl _ (by omega))]
      have key : ∀ i : Fin 11, ∀ p, phaseTab[i.1]? = some p → tabLook p.1 p.2.1 = some p.2.2 := by
        intro i p hp
        have : ∀ i : Fin 11, (phaseTab[i.1]?.map fun p => tabLook p.1 p.2.1) = (phaseTab[i.1]?.map fun p => some p.2.2) := by decide
        have := this i
        rw [hp] at this
        simpa using this
      exact (key ⟨i, hi11⟩ _ hi).symm
    · rw [g4 a b fun i v hi => h ⟨i, v, hi⟩]
      have key : ∀ (l : List (Int × Int × Int)), (∀ p ∈ l, ¬ (a = p.1 ∧ b = p.2.1)) → look a b (l.map fun p => Ent.mk p.1 p.2.1 p.2.2 0) = none := by
        intro l
        induction l with
        | nil => intro _; rfl
        | cons p r ih =>
          intro hp
          simp only [List.map_cons, look]
          rw [if_neg]
          · exact ih fun q hq => hp q (by simp [hq])
          · simpa using hp p (by simp)
      refine (key phaseTab fun p hp ⟨h1, h2⟩ => ?_).symm
      obtain ⟨i, hi, he'⟩ := List.getElem_of_mem hp
      exact h ⟨i, p.2.2, by rw [h1, h2]; simp [hi, he']⟩

theorem Post.wider {σ : Syms} {N0 : Nat} {w0 : World} {ρ : Ren} {s : AState} {w w' : World} (h : WRel σ N0 w0 ρ s w) (hs : w.heap.size ≤ w'.heap.size) (hk : ∀ k, k < w.heap.size → w'.heap[k]? = w.heap[k]?) (ho : w'.os = w.os ∧ w'.tape = w.tape ∧ w'.output = w.output) :
    Post σ N0 w0 ρ s w ρ s w' := by
  have hn := h.n0
  refine ⟨Ext.refl _, fun _ _ h => .inl h, Nat.le_refl _, rfl, Nat.le_refl _, fun _ _ _ => rfl, fun _ _ h => h, ?_, fun c hc _ => hk c hc, hs⟩
  refine ⟨h.base.trans ⟨ho.1, ho.2.1, ho.2.2, hs, fun k hk' => hk k (by omega)⟩, by omega, h.bnd, h.inj, h.dom, fun b L e => ?_, fun b o hb L e => (h.heap b o hb L e).of_block (hk _ (h.rng b L e).1)⟩
  have := h.rng b L e
  exact ⟨by omega, this.2⟩

/-- What a call of the phases' table answers. -/
def phaseNext : List AVal → AState → R (AVal × AState)
  | [.lit (.int .i64 a), .lit (.int .i64 b)], s => .ok (.tup [.lit (.int .i64 ((tabLook a b).getD 0)), .lit (.bool (tabLook a b).isSome)], s)
  | _, _ => .fail "Next"

theorem phaseNext_ok {σ : Syms} {N0 : Nat} {w0 : World} {f : FuncId} (h : ∀ (a b : Int) (w : World), Calls P f #[.int .i64 a, .int .i64 b] w fun e w' => e = .returned (.tuple #[.int .i64 ((tabLook a b).getD 0), .bool (tabLook a b).isSome]) ∧ w.heap.size ≤ w'.heap.size ∧
    (∀ k, k < w.heap.size → w'.heap[k]? = w.heap[k]?) ∧ w'.os = w.os ∧ w'.tape = w.tape ∧ w'.output = w.output) : PrimOk P σ N0 w0 f phaseNext := by
  have inv : ∀ args s v s', phaseNext args s = .ok (v, s') → ∃ a b, args = [.lit (.int .i64 a), .lit (.int .i64 b)] ∧ v = .tup [.lit (.int .i64 ((tabLook a b).getD 0)), .lit (.bool (tabLook a b).isSome)] ∧ s' = s := by
    intro args s v s' h
    unfold phaseNext at h
    split at h
    · cases h; exact ⟨_, _, rfl, rfl, rfl⟩
    · cases h
  refine ⟨fun args s v s' h => ?_, fun args s v s' hr ρ w us hw hf hv => ?_⟩
  · obtain ⟨_, _, _, _, rfl⟩ := inv _ _ _ _ h
    exact Abs.refl _
  · obtain ⟨a, b, rfl, rfl, rfl⟩ := inv _ _ _ _ hr
    obtain ⟨u1, r1, e1, ⟨rfl, _⟩, u2, r2, rfl, ⟨rfl, _⟩, rfl⟩ := hv
    have hus : us = #[.int .i64 a, .int .i64 b] := by
      apply Array.toList_inj.1
      rw [e1]
    subst hus
    refine (h a b w).mono fun e w' ⟨h1, h2, h3, h4⟩ => ⟨_, ρ, h1, ?_, Post.wider hw h2 h3 h4⟩
    exact ⟨_, rfl, _, _, rfl, ⟨rfl, rfl⟩, _, _, rfl, ⟨rfl, rfl⟩, rfl⟩

end
end Go.Am


/-
  Facts on unknown numbers: what an operator answers of an unknown number and a known one.
-/
namespace Go.Am
open Go Go.RowKit
set_option linter.unusedVariables false
set_option linter.unusedSimpArgs false

section
variable {P : Program} {σ : Syms}

def binFacts (F : BinOp → Nat → IntKind → Int → Option Value) : Facts := fun op vs => match op, vs with
  | .binOp bop _ _ _ _, [.sym i, .lit (.int k d)] => match F bop i k d with
    | some v => some (.lit v)
    | none => none
  | _, _ => none

theorem binFacts_ok {F : BinOp → Nat → IntKind → Int → Option Value}
    (h : ∀ bop i k d v, F bop i k d = some v → vOne v = true ∧ ∀ t w (ox oy : Operand), (do eqGuard bop t ox oy (.int (σ i).1 (σ i).2) (.int k d); binOp bop t (.int (σ i).1 (σ i).2) (.int k d) : Sem Value).run P w = .ok v w) : FactsOk P σ (binFacts F) := by
  intro op vs v hv ρ e w hr
  unfold binFacts at hv
  split at hv
  · rename_i bop t x y yt i k d
    split at hv
    · rename_i v' hF
      cases hv
      obtain ⟨h1, h2⟩ := h bop i k d v' hF
      have hop : (Op.binOp bop t x y yt).operands.toList.map e = [e x, e y] := by simp [Op.operands]
      rw [hop] at hr
      obtain ⟨u1, r1, e1, hu1, u2, r2, e2, ⟨hu2, _⟩, e3⟩ := hr
      cases e1
      cases e2
      replace hu1 : e x = .int (σ i).1 (σ i).2 := hu1
      refine ⟨v', fun o ho => ?_, rfl, h1⟩
      have h3 := h2 t w x y
      unfold execOp
      rw [ho]
      simp only []
      rw [hu1, hu2, Sem.run_bind, h3]
      rfl
    · cases hv
  · cases hv

theorem rem_run {k : IntKind} {a d : Int} (hd : d ≠ 0) (t : TypeId) (w : World) (ox oy : Operand) :
    (do eqGuard .rem t ox oy (.int k a) (.int k d); binOp .rem t (.int k a) (.int k d) : Sem Value).run P w = .ok (.int k (a.tmod d)) w := by
  rw [Sem.run_bind]
  have : (eqGuard .rem t ox oy (.int k a) (.int k d)).run P w = .ok () w := by simp [eqGuard]
  rw [this, Result.andThen_ok, binOp_rem]
  simp [Op.intDiv, hd]

end
end Go.Am


/-
  A run of the machine that is true: the call is.
-/
namespace Go.Proofs.Ytdhnfhhmacjajaa
open Go Go.RowKit Go.Am
set_option linter.unusedVariables false
set_option linter.unusedSimpArgs false

def isTrue : R (Done × AState) → Bool
  | .ok (.val (.lit (.bool true)), _) => true
  | _ => false

theorem isTrue_ok {r : R (Done × AState)} (h : isTrue r = true) : ∃ s, r = .ok (.val (.lit (.bool true)), s) := by
  unfold isTrue at h
  split at h
  · exact ⟨_, rfl⟩
  · cases h

def st0 : AState := ⟨.leaf, 0, big, 0⟩

def noPrims : Prims := fun _ => none

theorem noPrims_ok {P : Program} {σ : Syms} {N0 : Nat} {w0 : World} : ∀ f p, noPrims f = some p → PrimOk P σ N0 w0 f p := fun f p h => by cases h

theorem calls_runP {σ : Syms} {prims : Prims} {facts : Facts} (w : World) (hp : ∀ f p, prims f = some p → PrimOk Try.prog σ w.heap.size w f p) (hfa : FactsOk Try.prog σ facts) {f : FuncId} {args : List AVal} {us : Array Value} {n : Nat}
    (hf : plainFn Try.prog f = true) (ha : VRels σ (fun _ => none) args us.toList) (h : isTrue (run Try.prog prims facts (drawRun Try.prog) n (.call f args) st0) = true) :
    Calls Try.prog f us w (fun e w' => e = .returned (.bool true) ∧ Below w.heap.size w w') := by
  obtain ⟨s, hs⟩ := isTrue_ok h
  exact calls_true (by kernel_rfl) hfa hp hf ⟨rfl, rfl, rfl⟩ ha hs

end Go.Proofs.Ytdhnfhhmacjajaa


/-
  Worlds that grew and kept all but a few blocks.
-/
namespace Go.Proofs.Ytdhnfhhmacjajaa
open Go Go.RowKit Go.Maps Go.Am
set_option linter.unusedVariables false
set_option linter.unusedSimpArgs false

/-- w' has grown from w, and none of w's blocks but those of l has turned. -/
structure GrowBut (w w' : World) (l : List Nat) : Prop where
  os : w'.os = w.os
  tape : w'.tape = w.tape
  output : w'.output = w.output
  size : w.heap.size ≤ w'.heap.size
  block : ∀ k, k < w.heap.size → k ∉ l → w'.heap[k]? = w.heap[k]?

theorem GrowBut.refl (w : World) (l : List Nat) : GrowBut w w l := ⟨rfl, rfl, rfl, Nat.le_refl _, fun _ _ _ => rfl⟩

theorem GrowBut.trans {a b c : World} {l : List Nat} (h : GrowBut a b l) (k : GrowBut b c l) : GrowBut a c l :=
  ⟨by rw [k.os, h.os], by rw [k.tape, h.tape], by rw [k.output, h.output], Nat.le_trans h.size k.size, fun j hj hn => by rw [k.block j (Nat.lt_of_lt_of_le hj h.size) hn, h.block j hj hn]⟩

theorem GrowBut.mono {a b : World} {l l' : List Nat} (h : GrowBut a b l) (hs : ∀ x ∈ l, x ∈ l') : GrowBut a b l' :=
  ⟨h.os, h.tape, h.output, h.size, fun j hj hn => h.block j hj (fun hm => hn (hs j hm))⟩

theorem GrowBut.from {a b c : World} {l l' : List Nat} (h : GrowBut a b l) (k : GrowBut b c l') (hs : ∀ x ∈ l', x ∈ l ∨ a.heap.size ≤ x) : GrowBut a c l :=
  ⟨by rw [k.os, h.os], by rw [k.tape, h.tape], by rw [k.output, h.output], Nat.le_trans h.size k.size, fun j hj hn => by
    rw [k.block j (Nat.lt_of_lt_of_le hj h.size) (fun hm => by rcases hs j hm with h1 | h1; exact hn h1; omega), h.block j hj hn]⟩

theorem GrowBut.of_none {a b : World} {l : List Nat} (h : a.grownBy b none) : GrowBut a b l := ⟨h.os, h.tape, h.output, h.size, fun j hj _ => h.block j hj (by simp)⟩

theorem GrowBut.of_some {a b : World} {m : Nat} (h : a.grownBy b (some m)) : GrowBut a b [m] := ⟨h.os, h.tape, h.output, h.size, fun j hj hn => h.block j hj (by simpa using hn)⟩

theorem GrowBut.of_below {a b : World} {l : List Nat} (h : Below a.heap.size a b) : GrowBut a b l := ⟨h.os, h.tape, h.output, h.size, fun j hj _ => h.block j hj⟩

theorem GrowBut.alloc (w : World) (o : Obj) (l : List Nat) : GrowBut w (w.alloc o) l := .of_none (World.grownBy_alloc w o none)

theorem GrowBut.drew (w : World) (l : List Nat) : GrowBut w w.drew l := ⟨rfl, rfl, rfl, Nat.le_refl _, fun _ _ _ => rfl⟩

theorem GrowBut.drewN (w : World) (n : Nat) (l : List Nat) : GrowBut w (w.drewN n) l := ⟨rfl, rfl, rfl, Nat.le_refl _, fun _ _ _ => rfl⟩

theorem GrowBut.setCell (w : World) (a : Addr) (v : Value) : GrowBut w (w.setCell a v) [a.block] :=
  ⟨rfl, rfl, rfl, by simp, fun j hj hn => RowKit.Below.heap_setCell _ _ _ _ (by simpa using hn)⟩

theorem GrowBut.keepAll {a b : World} (h : GrowBut a b []) : a.grownBy b none := ⟨h.os, h.tape, h.output, h.size, fun j hj _ => h.block j hj (by simp)⟩

theorem GrowBut.cell {w w' : World} {l : List Nat} (hg : GrowBut w w' l) {a : Addr} {v : Value} (h : w.cell? a = some v) (hne : a.block ∉ l) : w'.cell? a = some v := by
  have hlt : a.block < w.heap.size := by
    by_cases h2 : a.block < w.heap.size
    · exact h2
    · exfalso
      have h3 : w.heap[a.block]? = Option.none := Array.getElem?_eq_none (by omega)
      simp [World.cell?, h3] at h
  rw [World.cell?_of_block (hg.block _ hlt hne)]
  exact h

theorem GrowBut.frozen {w w' : World} {l : List Nat} (hg : GrowBut w w' l) {a : Addr} (hlt : a.block < w.heap.size) (h : w.frozen? a = false) (hne : a.block ∉ l) : w'.frozen? a = false := by
  rw [World.frozen?_of_block (hg.block _ hlt hne)]
  exact h

theorem GrowBut.map {H : Type} {P : Program} {k : TypeId} {R : Value → Option (DataW H × List MemPlace)} {b n : Nat} {D : DataW H} {w w' : World} {l : List Nat} (hg : GrowBut w w' l) (h : w.ownsMap P k R b n D) (hne : b ∉ l) : w'.ownsMap P k R b n D := by
  obtain ⟨es, clock, hb, r⟩ := h
  exact ⟨es, clock, by rw [hg.block b ((Array.getElem?_eq_some_iff.1 hb).1) hne]; exact hb, r⟩

theorem GrowBut.row {w w' : World} {l : List Nat} {base : Nat} {e : TypeId} {size n : Nat} {v : Value} {xs : List Value} (hg : GrowBut w w' l) (h : w.ownsRow base e size v n xs) (hne : ∀ j, v.ownBlock = some j → j ∉ l) : w'.ownsRow base e size v n xs := by
  have hlt := h.lt
  refine ⟨h.1, ?_⟩
  rcases h.2 with h1 | ⟨g, cap, cur, rfl, hbase, hb, r⟩
  · exact .inl h1
  · exact .inr ⟨g, cap, cur, rfl, hbase, by rw [hg.block g (Array.getElem?_eq_some_iff.1 hb).1 (hne g rfl)]; exact hb, r⟩

end Go.Proofs.Ytdhnfhhmacjajaa
