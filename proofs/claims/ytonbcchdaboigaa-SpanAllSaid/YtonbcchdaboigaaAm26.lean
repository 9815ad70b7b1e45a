/-
  The machine that looks at every order is sound.
-/
import Derived.Test.YtonbcchdaboigaaAm25
namespace Go.Am
open Go Go.RowKit
set_option linter.unusedVariables false

section
variable {σ : Syms} {N0 : Nat} {w0 : World} {P : Program} {M : Nat} {both : Bool} {β : Type} {eq : β → β → Bool} {rec : Rec} {X : XRec β} {prims : Prims}

structure XOk (M : Nat) (P : Program) (σ : Syms) (N0 : Nat) (w0 : World) {β : Type} (X : XRec β) : Prop where
  call : ∀ f args s k r, X (.call f args) s k = .ok r → plainFn P f = true → CallTo M P σ N0 w0 f args s (fun v s' => k (.val v) s' = .ok r)
  code : ∀ c a s k r, X (.code c a) s k = .ok r → CodeTo M P σ N0 w0 c a s (fun e a s' => k (.out e a) s' = .ok r)
  loop : ∀ x a s k r, X (.code (.loop x) a) s k = .ok r → LoopTo M P σ N0 w0 x a s (fun e a s' => k (.out e a) s' = .ok r)
  scope : ∀ body c a s k r, X (.inscope body c a) s k = .ok r → InScopeTo M P σ N0 w0 body c a s (fun e a s' => k (.out e a) s' = .ok r)

theorem allSame_ok (heq : ∀ x y, eq x y = true → x = y) {α : Type} {f : α → R β} {r q : β} : ∀ {l : List α}, allSame eq f r l = .ok q → q = r ∧ ∀ x ∈ l, f x = .ok r
  | [], h => by cases h; exact ⟨rfl, fun x hx => by cases hx⟩
  | x :: l, h => by
    unfold allSame at h
    split at h
    · rename_i y hy
      cases hq : eq r y with
      | false => rw [hq] at h; cases h
      | true =>
        rw [hq, cond_true] at h
        obtain ⟨h1, h2⟩ := allSame_ok heq h
        have := heq _ _ hq
        subst this
        refine ⟨h1, fun z hz => ?_⟩
        rcases List.mem_cons.1 hz with rfl | hz
        · exact hy
        · exact h2 z hz
    · cases h

theorem R.ok_bind {α β : Type} {x : α} {f : α → R β} : (R.ok x >>= f) = f x := rfl

theorem stepOp_of {ops : List Oper} {o : Oper} {a a1 : AAct} {s s1 : AState} {v : AVal} (hg : wantedA ops a o = .ok true) (hx : execA P rec (aev a) o s = .ok (v, s1)) (hp : a.put o.dst v = .ok a1) : stepOp P rec ops o a s = .ok (a1, s1) := by
  unfold stepOp
  rw [hg, R.ok_bind, cond_true, hx, R.ok_bind, hp, R.ok_bind]

theorem opCall_enter {ev : Operand → R AVal} {c : Call} {s s1 : AState} {f : FuncId} {args : List AVal} (h : opCall P ev c s = .ok (.enter f args, s1)) : s1 = s ∧ plainFn P f = true := by
  unfold opCall at h
  replace h := R.bind_ok' h
  obtain ⟨args', h1, h⟩ := h
  split at h
  · replace h := R.bind_ok' h
    obtain ⟨⟨v, s2⟩, h2, h⟩ := h
    obtain ⟨h3, _⟩ := okv_ok h
    cases h3
  · replace h := R.bind_ok' h
    obtain ⟨fv, h2, h⟩ := h
    split at h
    · replace h := R.bind_ok' h
      obtain ⟨_, h3, h⟩ := h
      cases h
      exact ⟨rfl, guardR_ok h3⟩
    · cases h
  · cases h

theorem nextX_ok (hrec : RunOk P σ N0 w0 rec) (heq : ∀ x y, eq x y = true → x = y) {ops : Array Oper} {o : Oper} {l : List Oper} {a : AAct} {s : AState} {it : Operand} {k : AVal → AState → R β} {r : β} {K : AAct → AState → Prop} (ho : o.op = .next it false)
    (hg : wantedA ops.toList a o = .ok true) (h : nextX eq (aev a) it s k = .ok r) (hk : ∀ v s1, k v s1 = .ok r → s1.next ≤ M ∧ ∃ a1, a.put o.dst v = .ok a1 ∧ OpsTo M P σ N0 w0 ops l a1 s1 K) : OpsTo M P σ N0 w0 ops (o :: l) a s K := by
  unfold nextX at h
  replace h := R.bind_ok' h
  obtain ⟨x, h1, h⟩ := h
  replace h := R.bind_ok' h
  obtain ⟨⟨rr, oo⟩, h2, h⟩ := h
  replace h := R.bind_ok' h
  obtain ⟨_, h3, h⟩ := h
  replace h := R.bind_ok' h
  obtain ⟨ob, h4, h⟩ := h
  have h3 := Nat.eq_of_beq_eq_true (guardR_ok h3)
  replace h3 : oo = 0 := h3
  subst h3
  have hit : aev a it = .ok (.ptr rr 0) := by
    rw [h1]
    unfold asPtr at h2
    split at h2
    · cases h2; rfl
    · cases h2
  split at h
  · rename_i since seen last
    obtain ⟨hm, a1, hp, hK⟩ := hk _ _ h
    refine OpsTo.step hrec (stepOp_of (v := .tup [.lit (.bool false)]) hg ?_ hp) hm hK
    have : aop P (aev a) o s = .ok (.val (.tup [.lit (.bool false)]), s) := by
      unfold aop
      rw [ho]
      show opNext (aev a) it s = _
      unfold opNext
      rw [hit]
      show (s.get rr).bind _ = _
      rw [h4]
      rfl
    unfold execA
    rw [this]
  · rename_i m since seen last
    replace h := R.bind_ok' h
    obtain ⟨mo, h5, h⟩ := h
    split at h
    · rename_i es c
      replace h := R.bind_ok' h
      obtain ⟨_, h6, h⟩ := h
      have h6 := guardR_ok h6
      simp only [Bool.and_eq_true] at h6
      have hsl := Nat.le_of_ble_eq_true h6.1
      have hold : es.all (fun e => decide (e.born < since)) = true := by
        rw [List.all_eq_true]
        intro e he
        have := List.all_eq_true.1 h6.2 e he
        exact decide_eq_true (Nat.le_of_ble_eq_true this)
      have one : ∀ (e : AEntry), (do
          guardR (vOne e.key) "next: key"
          let s1 ← s.write rr (.iter (some m) since (seen ++ [e.born]) c)
          k (.tup [.lit (.bool true), .lit e.key, e.val]) s1 : R β) = .ok r → vOne e.key = true ∧ ∃ s1 a1, s.write rr (.iter (some m) since (seen ++ [e.born]) c) = .ok s1 ∧ a.put o.dst (.tup [.lit (.bool true), .lit e.key, e.val]) = .ok a1 ∧ OpsTo M P σ N0 w0 ops l a1 s1 K := fun e h => by
        replace h := R.bind_ok' h
        obtain ⟨_, h7, h⟩ := h
        replace h := R.bind_ok' h
        obtain ⟨s1, h8, h⟩ := h
        obtain ⟨_, a1, hp, hK⟩ := hk _ _ h
        exact ⟨guardR_ok h7, s1, a1, h8, hp, hK⟩
      refine OpsTo.next hg ho hit (get_ok h4) (get_ok h5) hold hsl (fun hl => ?_) fun e he => ?_
      · rw [hl] at h
        obtain ⟨_, a1, hp, hK⟩ := hk _ _ h
        exact ⟨a1, hp, hK⟩
      · split at h
        · rename_i hl
          rw [hl] at he
          cases he
        · rename_i e0 l0 hl
          rw [hl] at he
          replace h := R.bind_ok' h
          obtain ⟨r1, h7, h⟩ := h
          obtain ⟨h8, h9⟩ := allSame_ok heq h
          subst h8
          refine one e ?_
          rcases List.mem_cons.1 he with rfl | he
          · exact h7
          · exact h9 e he
    · cases h
  · cases h

theorem ask_step (hrec : RunOk P σ N0 w0 rec) {ops : Array Oper} {o : Oper} {l : List Oper} {a : AAct} {s : AState} {w : String} {k : AVal → AState → R β} {r : β} {K : AAct → AState → Prop} (h1 : aop P (aev a) o s = .fail w)
    (hg : wantedA ops.toList a o = .ok true) (h : (do let p ← askA rec (aev a) o s w; k p.1 p.2) = .ok r) (hk : ∀ v s1, k v s1 = .ok r → s1.next ≤ M ∧ ∃ a1, a.put o.dst v = .ok a1 ∧ OpsTo M P σ N0 w0 ops l a1 s1 K) : OpsTo M P σ N0 w0 ops (o :: l) a s K := by
  replace h := R.bind_ok' h
  obtain ⟨⟨v, s1⟩, h2, h⟩ := h
  obtain ⟨hm, a1, hp, hK⟩ := hk _ _ h
  refine OpsTo.step hrec (stepOp_of (v := v) hg ?_ hp) hm hK
  unfold execA
  rw [h1]
  exact h2

theorem val_step (hrec : RunOk P σ N0 w0 rec) {ops : Array Oper} {o : Oper} {l : List Oper} {a : AAct} {s s1 : AState} {v : AVal} {k : AVal → AState → R β} {r : β} {K : AAct → AState → Prop} (h1 : aop P (aev a) o s = .ok (.val v, s1))
    (hg : wantedA ops.toList a o = .ok true) (h : k v s1 = .ok r) (hk : ∀ v s1, k v s1 = .ok r → s1.next ≤ M ∧ ∃ a1, a.put o.dst v = .ok a1 ∧ OpsTo M P σ N0 w0 ops l a1 s1 K) : OpsTo M P σ N0 w0 ops (o :: l) a s K := by
  obtain ⟨hm, a1, hp, hK⟩ := hk _ _ h
  refine OpsTo.step hrec (stepOp_of (v := v) hg ?_ hp) hm hK
  unfold execA
  rw [h1]

theorem unsure_run {o : Oper} {op : BinOp} {act : Act} {w : World} {t yt : TypeId} {x y : Operand} {i j : Nat} (ho : o.op = .binOp .lss t x y yt) (hk : (σ i).1 = (σ j).1) (hx : act.eval x = .int (σ i).1 (σ i).2) (hy : act.eval y = .int (σ j).1 (σ j).2) :
    (execOp act.eval o).run P w = .ok (.value (.bool (decide ((σ i).2 < (σ j).2)))) w := by
  unfold execOp
  rw [ho]
  simp only []
  rw [hx, hy, ← hk, Sem.run_bind]
  have : (do eqGuard .lss t x y (.int (σ i).1 (σ i).2) (.int (σ i).1 (σ j).2); binOp .lss t (.int (σ i).1 (σ i).2) (.int (σ i).1 (σ j).2) : Sem Value).run P w = .ok (.bool (decide ((σ i).2 < (σ j).2))) w := by
    rw [Sem.run_bind]
    have h1 : (eqGuard .lss t x y (.int (σ i).1 (σ i).2) (.int (σ i).1 (σ j).2)).run P w = .ok () w := by simp [eqGuard]
    rw [h1, Result.andThen_ok, binOp_lss, Sem.run_pure]
  rw [this]
  rfl

theorem opX_ok (hb : both = true → ∀ i j, (σ i).1 = (σ j).1) (hrec : RunOk P σ N0 w0 rec) (hX : XOk M P σ N0 w0 X) (heq : ∀ x y, eq x y = true → x = y) {ops : Array Oper} {o : Oper} {l : List Oper} {a : AAct} {s : AState} {k : AVal → AState → R β} {r : β} {K : AAct → AState → Prop}
    (hg : wantedA ops.toList a o = .ok true) (h : opX P both eq rec X (aev a) o s k = .ok r) (hk : ∀ v s1, k v s1 = .ok r → s1.next ≤ M ∧ ∃ a1, a.put o.dst v = .ok a1 ∧ OpsTo M P σ N0 w0 ops l a1 s1 K) : OpsTo M P σ N0 w0 ops (o :: l) a s K := by
  unfold opX at h
  split at h
  · rename_i it ho
    exact nextX_ok hrec heq ho hg h hk
  · rename_i c ho
    have hc : aop P (aev a) o s = opCall P (aev a) c s := by unfold aop; rw [ho]
    unfold callX at h
    split at h
    · rename_i v s1 h1
      exact val_step hrec (hc.trans h1) hg h hk
    · rename_i f args s1 h1
      obtain ⟨rfl, hpl⟩ := opCall_enter h1
      intro ρ w act Q ha hw hr hQ
      exact OpsTo.call hg (hc.trans h1) hr.1 ((hX.call _ _ _ _ _ h hpl).mono fun v s2 h2 => (hk v s2 h2).2) ρ w act Q ha hw hr hQ
    · cases h
    · rename_i w h1
      exact ask_step hrec (hc.trans h1) hg h hk
  · unfold otherX at h
    split at h
    · rename_i v s1 h1
      exact val_step hrec h1 hg h hk
    · cases h
    · rename_i w h1
      cases hq : (both && unsureR o.op (evs (aev a) o.op.operands.toList)) with
      | false => rw [hq, cond_false] at h; exact ask_step hrec h1 hg h hk
      | true =>
        rw [hq, cond_true] at h
        simp only [Bool.and_eq_true] at hq
        replace h := R.bind_ok' h
        obtain ⟨r1, h2, h⟩ := h
        obtain ⟨h3, h4⟩ := allSame_ok heq h
        subst h3
        have h5 : ∀ b : Bool, k (.lit (.bool b)) s = .ok r := fun b => by
          cases b with
          | true => exact h2
          | false => exact h4 false (by simp)
        have hu := hq.2
        unfold unsureR at hu
        split at hu
        · rename_i vs hvs
          unfold unsure at hu
          split at hu
          · rename_i t x y yt i j hop
            intro ρ w1 act Q ha hw hr hQ
            have hwant : Region.wanted o (yielded ops act.tmps) = true := wantedA_ok hg fun t v _ hv => ha.get t v hv
            show (if Region.wanted o (yielded ops act.tmps) then _ else _)
            rw [hwant]
            simp only [if_true]
            left
            have hop' : o.op.operands.toList = [x, y] := by rw [hop]; simp [Op.operands]
            have hv := evs_ok (σ := σ) (ρ := ρ) (e := act.eval) (fun z _ => aev_of z fun t v _ hv => ha.get t v hv) hvs
            rw [hop'] at hv
            obtain ⟨u1, q1, e1, hu1, u2, q2, e2, hu2, e3⟩ := hv
            simp only [List.map_cons, List.map_nil, List.cons.injEq] at e1
            obtain ⟨e1, e1'⟩ := e1
            rw [← e1'] at e2
            simp only [List.cons.injEq] at e2
            unfold Oper.wp
            rw [unsure_run (σ := σ) (op := .lss) (i := i) (j := j) hop (hb hq.1 i j) (e1.trans hu1) (e2.1.trans hu2), Oper.upon_value]
            obtain ⟨hm, a1, hp, hK⟩ := hk _ _ (h5 (decide ((σ i).2 < (σ j).2)))
            exact hK.behind (ha.put (Ext.refl _) (v := .lit (.bool (decide ((σ i).2 < (σ j).2)))) ⟨rfl, rfl⟩ hp) (Post.refl hw) hr hr.1 hQ
          · cases hu
        · cases hu

theorem opsX_ok (hb : both = true → ∀ i j, (σ i).1 = (σ j).1) (hrec : RunOk P σ N0 w0 rec) (hX : XOk M P σ N0 w0 X) (heq : ∀ x y, eq x y = true → x = y) {ops : Array Oper} {r : β} : ∀ {l : List Oper} {a : AAct} {s : AState} {k : AAct → AState → R β},
    opsX P both M eq rec X ops.toList l a s k = .ok r → OpsTo M P σ N0 w0 ops l a s fun a' s' => k a' s' = .ok r
  | [], a, s, k, h => OpsTo.nil h
  | o :: l, a, s, k, h => by
    unfold opsX at h
    replace h := R.bind_ok' h
    obtain ⟨b, hg, h⟩ := h
    cases b with
    | true =>
      rw [cond_true] at h
      refine opX_ok hb hrec hX heq hg h fun v s1 h1 => ?_
      cases hq : Nat.ble s1.next M with
      | false => rw [hq] at h1; cases h1
      | true =>
        rw [hq, cond_true] at h1
        replace h1 := R.bind_ok' h1
        obtain ⟨a1, hp, h1⟩ := h1
        exact ⟨Nat.le_of_ble_eq_true hq, a1, hp, opsX_ok hb hrec hX heq h1⟩
    | false =>
      rw [cond_false] at h
      replace h := R.bind_ok' h
      obtain ⟨a1, hp, h⟩ := h
      intro ρ w act Q ha hw hc hQ
      refine OpsTo.step hrec (a1 := a1) (s1 := s) ?_ hc.1 (opsX_ok hb hrec hX heq h) ρ w act Q ha hw hc hQ
      unfold stepOp
      rw [hg, R.ok_bind, cond_false, hp, R.ok_bind]

theorem stepX_call (hrec : RunOk P σ N0 w0 rec) (hX : XOk M P σ N0 w0 X) (hp : ∀ f p, prims f = some p → PrimOk P σ N0 w0 f p) : ∀ f args s k r, stepX P both M prims eq rec X (.call f args) s k = .ok r → CallTo M P σ N0 w0 f args s (fun v s' => k (.val v) s' = .ok r) := by
  intro f args s k r h
  unfold stepX at h
  simp only [] at h
  split at h
  · rename_i p hpf
    replace h := R.bind_ok' h
    obtain ⟨⟨v, s1⟩, h1, h⟩ := h
    replace h : (bif Nat.ble s1.next M then k (.val v) s1 else .fail "too many blocks") = .ok r := h
    cases hq : Nat.ble s1.next M with
    | false => rw [hq] at h; cases h
    | true =>
      rw [hq, cond_true] at h
      exact CallTo.of_prim (hp f p hpf) h1 (Nat.le_of_ble_eq_true hq) h
  · replace h := R.bind_ok' h
    obtain ⟨fn, h1, h⟩ := h
    replace h := R.bind_ok' h
    obtain ⟨body, h2, h⟩ := h
    replace h := R.bind_ok' h
    obtain ⟨_, h3, h⟩ := h
    replace h3 := guardR_ok h3
    simp only [Bool.and_eq_true] at h3
    have hn1 := Nat.le_of_ble_eq_true h3.1
    have hn2 := Nat.le_of_ble_eq_true h3.2
    obtain ⟨t, h5, ht⟩ := initTmps_ok h (by omega)
    refine CallTo.body (R.of_ok h1) (R.of_ok h2) h3 ht ((hX.code _ _ _ _ _ h5).mono fun e a s' h6 => ?_)
    have fin : ∀ {x : R (List AVal)}, (x >>= fun vs => (match vs with | [v] => k (.val v) s' | vs => k (.val (.tup vs)) s' : R β)) = .ok r → ∃ vs, x = .ok vs ∧ k (.val (retA vs)) s' = .ok r := fun {x} h => by
      replace h := R.bind_ok' h
      obtain ⟨vs, h7, h⟩ := h
      refine ⟨vs, h7, ?_⟩
      cases vs with
      | nil => exact h
      | cons v q => cases q with
        | nil => exact h
        | cons v' q' => exact h
    cases e with
    | normal => exact ⟨.inl rfl, fin h6⟩
    | ret => exact ⟨.inr rfl, fin h6⟩
    | exit id => cases h6
    | goto l => cases h6

theorem stepX_loop (hX : XOk M P σ N0 w0 X) : ∀ x a s k r, stepX P both M prims eq rec X (.code (.loop x) a) s k = .ok r → LoopTo M P σ N0 w0 x a s (fun e a s' => k (.out e a) s' = .ok r) := by
  intro x a s k r h
  refine LoopTo.of ((hX.code _ _ _ _ _ h).mono fun e a1 s1 h1 => ?_)
  cases e with
  | normal => exact hX.loop _ _ _ _ _ h1
  | exit id => exact h1
  | goto l => exact h1
  | ret => exact h1

theorem stepX_scope (hX : XOk M P σ N0 w0 X) : ∀ body c a s k r, stepX P both M prims eq rec X (.inscope body c a) s k = .ok r → InScopeTo M P σ N0 w0 body c a s (fun e a s' => k (.out e a) s' = .ok r) := by
  intro body c a s k r h
  refine InScopeTo.of ((hX.code _ _ _ _ _ h).mono fun e a1 s1 h1 => ?_)
  cases e with
  | goto l =>
    simp only [Scoped]
    split
    · rename_i rest hl
      simp only [hl] at h1
      exact hX.scope _ _ _ _ _ _ h1
    · rename_i hl
      simp only [hl] at h1
      exact h1
  | normal => exact h1
  | exit id => exact h1
  | ret => exact h1

theorem stepX_code (hb : both = true → ∀ i j, (σ i).1 = (σ j).1) (hm : P.follows .mixedOrders = true) (hrec : RunOk P σ N0 w0 rec) (hX : XOk M P σ N0 w0 X) (heq : ∀ x y, eq x y = true → x = y) :
    ∀ c a s k r, stepX P both M prims eq rec X (.code c a) s k = .ok r → CodeTo M P σ N0 w0 c a s (fun e a s' => k (.out e a) s' = .ok r) := by
  intro c a s k r h
  cases c with
  | skip => exact CodeTo.skip h
  | label l => exact CodeTo.label h
  | exit id => exact CodeTo.exit h
  | goto l => exact CodeTo.goto h
  | ret => exact CodeTo.ret h
  | region id ops d =>
    cases d with
    | true =>
      replace h := R.bind_ok' h
      obtain ⟨⟨a1, s1⟩, h1, h⟩ := h
      replace h : (bif Nat.ble s1.next M then k (.out .normal a1) s1 else .fail "too many blocks") = .ok r := h
      cases hq : Nat.ble s1.next M with
      | false => rw [hq] at h; cases h
      | true =>
        rw [hq, cond_true] at h
        exact CodeTo.draw hrec hm h1 (Nat.le_of_ble_eq_true hq) h
    | false => exact CodeTo.region (opsX_ok hb hrec hX heq h)
  | seq x y =>
    refine CodeTo.seq ((hX.code _ _ _ _ _ h).mono fun e a1 s1 h1 => ?_)
    cases e with
    | normal => exact hX.code _ _ _ _ _ h1
    | exit id => exact h1
    | goto l => exact h1
    | ret => exact h1
  | cond c x y =>
    replace h := R.bind_ok' h
    obtain ⟨v, h1, h⟩ := h
    replace h := R.bind_ok' h
    obtain ⟨b, h2, h⟩ := h
    have hv : v = .lit (.bool b) := by
      unfold asBoolLit at h2
      split at h2
      · cases h2; rfl
      · cases h2
    subst hv
    exact CodeTo.cond h1 (hX.code _ _ _ _ _ h)
  | block id x =>
    refine CodeTo.block ((hX.code _ _ _ _ _ h).mono fun e a1 s1 h1 => ?_)
    cases e with
    | normal => exact h1
    | exit id => exact h1
    | goto l => exact h1
    | ret => exact h1
  | loop x => exact CodeTo.loopTo (stepX_loop (both := both) (prims := prims) (eq := eq) (rec := rec) hX x a s k r h)
  | scope x => exact CodeTo.scope (hX.scope _ _ _ _ _ _ h)
  | _ => cases h

theorem runX_ok (hb : both = true → ∀ i j, (σ i).1 = (σ j).1) (hm : P.follows .mixedOrders = true) (hrec : RunOk P σ N0 w0 rec) (heq : ∀ x y, eq x y = true → x = y) (hp : ∀ f p, prims f = some p → PrimOk P σ N0 w0 f p) : ∀ n, XOk M P σ N0 w0 (runX P both M prims eq rec n)
  | 0 => ⟨fun f args s k r h => (by cases h), fun c a s k r h => (by cases h), fun x a s k r h => (by cases h), fun body c a s k r h => (by cases h)⟩
  | n + 1 =>
    have ih := runX_ok hb hm hrec heq hp n
    ⟨fun f args s k r h _ => stepX_call (both := both) (eq := eq) hrec ih hp f args s k r h, stepX_code (prims := prims) hb hm hrec ih heq, stepX_loop (both := both) (prims := prims) (eq := eq) (rec := rec) ih, stepX_scope (both := both) (prims := prims) (eq := eq) (rec := rec) ih⟩

end
end Go.Am
