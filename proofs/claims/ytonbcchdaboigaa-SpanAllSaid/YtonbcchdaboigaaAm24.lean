/-
  What code and calls come to, from an abstract state: some of many abstract ends. Rules, one for each kind of code.
-/
import Derived.Test.YtonbcchdaboigaaAm23
import Derived.Maps.RangeRun
namespace Go.Am
open Go Go.RowKit
set_option linter.unusedVariables false

/-- No name is given from the state's own ones on, below `M`. -/
def Room (M : Nat) (ρ : Ren) (s : AState) : Prop := s.next ≤ M ∧ Fresh ρ s.next M

theorem Room.fresh {M : Nat} {ρ : Ren} {s : AState} (h : Room M ρ s) {m : Nat} (hm : m ≤ M) : Fresh ρ s.next m := h.2.mono (Nat.le_refl _) hm

abbrev CK := AExit → AAct → AState → Prop
abbrev VK := AVal → AState → Prop

section
variable {σ : Syms} {N0 : Nat} {w0 : World} {P : Program} {M : Nat}

theorem Room.post {ρ ρ' : Ren} {s s' : AState} {w w' : World} (h : Room M ρ s) (k : Post σ N0 w0 ρ s w ρ' s' w') (hm : s'.next ≤ M) : Room M ρ' s' := ⟨hm, k.fresh h.2⟩

def OutK (M : Nat) (σ : Syms) (N0 : Nat) (w0 : World) (ρ : Ren) (s : AState) (w : World) (K : CK) : Exit → Act → World → Prop :=
  fun e2 act' w' => ∃ e a' s', K e a' s' ∧ s'.next ≤ M ∧ Out σ N0 w0 ρ s w e a' s' e2 act' w'

theorem OutK.of {ρ ρ1 : Ren} {s s1 : AState} {w w1 : World} {K : CK} (h : Post σ N0 w0 ρ s w ρ1 s1 w1) (hc : Room M ρ s) (h1 : s1.next ≤ M) {e2 : Exit} {act' : Act} {w' : World} (hq : OutK M σ N0 w0 ρ1 s1 w1 K e2 act' w') : OutK M σ N0 w0 ρ s w K e2 act' w' := by
  obtain ⟨e, a', s', hk, hm, ho⟩ := hq
  exact ⟨e, a', s', hk, hm, ho.of h (hc.fresh h1)⟩

theorem OutK.mono {ρ : Ren} {s : AState} {w : World} {K K' : CK} (hk : ∀ e a s, K e a s → K' e a s) {e2 : Exit} {act' : Act} {w' : World} (hq : OutK M σ N0 w0 ρ s w K e2 act' w') : OutK M σ N0 w0 ρ s w K' e2 act' w' := by
  obtain ⟨e, a', s', h, ho⟩ := hq
  exact ⟨e, a', s', hk _ _ _ h, ho⟩

/-- What code comes to. -/
def CodeTo (M : Nat) (P : Program) (σ : Syms) (N0 : Nat) (w0 : World) (c : Code) (a : AAct) (s : AState) (K : CK) : Prop :=
  ∀ ρ w act, ARel σ ρ a act → WRel σ N0 w0 ρ s w → Room M ρ s → c.wp P (OutK M σ N0 w0 ρ s w K) act w

/-- What a call comes to. -/
def CallTo (M : Nat) (P : Program) (σ : Syms) (N0 : Nat) (w0 : World) (f : FuncId) (args : List AVal) (s : AState) (K : VK) : Prop :=
  ∀ ρ w (us : Array Value), WRel σ N0 w0 ρ s w → Room M ρ s → VRels σ ρ args us.toList →
    Calls P f us w (fun e w' => ∃ v s', K v s' ∧ s'.next ≤ M ∧ ∃ u ρ', e = .returned u ∧ VRel σ ρ' v u ∧ Post σ N0 w0 ρ s w ρ' s' w')

/-- What operations come to, one behind the other. -/
def OpsTo (M : Nat) (P : Program) (σ : Syms) (N0 : Nat) (w0 : World) (ops : Array Oper) (l : List Oper) (a : AAct) (s : AState) (K : AAct → AState → Prop) : Prop :=
  ∀ ρ w act (Q : Exit → Act → World → Prop), ARel σ ρ a act → WRel σ N0 w0 ρ s w → Room M ρ s → (∀ act' w' a' s' ρ', K a' s' → s'.next ≤ M → ARel σ ρ' a' act' → Post σ N0 w0 ρ s w ρ' s' w' → Q .normal act' w') → wpList P ops Q l act w

/-- What comes of code inside a scope. -/
def InScopeTo (M : Nat) (P : Program) (σ : Syms) (N0 : Nat) (w0 : World) (body c : Code) (a : AAct) (s : AState) (K : CK) : Prop :=
  ∀ ρ w act, ARel σ ρ a act → WRel σ N0 w0 ρ s w → Room M ρ s → ∀ b k cs, Comes' P (lone (b.at act (.code c :: .inScope body :: k)) cs w) b k cs (OutK M σ N0 w0 ρ s w K)

theorem CodeTo.mono {c : Code} {a : AAct} {s : AState} {K K' : CK} (h : CodeTo M P σ N0 w0 c a s K) (hk : ∀ e a s, K e a s → K' e a s) : CodeTo M P σ N0 w0 c a s K' :=
  fun ρ w act ha hw hc => wp_mono (h ρ w act ha hw hc) fun _ _ _ hq => hq.mono hk

theorem CallTo.mono {f : FuncId} {args : List AVal} {s : AState} {K K' : VK} (h : CallTo M P σ N0 w0 f args s K) (hk : ∀ v s, K v s → K' v s) : CallTo M P σ N0 w0 f args s K' :=
  fun ρ w us hw hc hv => (h ρ w us hw hc hv).mono fun e w' ⟨v, s', h1, h2⟩ => ⟨v, s', hk _ _ h1, h2⟩

theorem CodeTo.of_run {rec : Rec} (hrec : RunOk P σ N0 w0 rec) {c : Code} {a a' : AAct} {s s' : AState} {e : AExit} {K : CK} (h : rec (.code c a) s = .ok (.out e a', s')) (hm : s'.next ≤ M) (hk : K e a' s') : CodeTo M P σ N0 w0 c a s K :=
  fun ρ w act ha hw hc => wp_mono (hrec.code _ _ _ _ _ _ h ρ w act ha hw (hc.fresh hm)) fun _ _ _ hq => ⟨e, a', s', hk, hm, hq⟩

theorem CallTo.of_run {rec : Rec} (hrec : RunOk P σ N0 w0 rec) {f : FuncId} {args : List AVal} {s s' : AState} {v : AVal} {K : VK} (hf : plainFn P f = true) (h : rec (.call f args) s = .ok (.val v, s')) (hm : s'.next ≤ M) (hk : K v s') : CallTo M P σ N0 w0 f args s K := by
  intro ρ w us hw hc hv
  obtain ⟨v', e1, hcall⟩ := hrec.call _ _ _ _ _ h hf ρ w us hw (hc.fresh hm) hv
  cases e1
  exact hcall.mono fun e w' hq => ⟨v, s', hk, hm, hq⟩

theorem CallTo.of_prim {f : FuncId} {p : List AVal → AState → R (AVal × AState)} (hp : PrimOk P σ N0 w0 f p) {args : List AVal} {s s' : AState} {v : AVal} {K : VK} (h : p args s = .ok (v, s')) (hm : s'.next ≤ M) (hk : K v s') : CallTo M P σ N0 w0 f args s K :=
  fun ρ w us hw hc hv => (hp.sound _ _ _ _ h ρ w us hw (hc.fresh hm) hv).mono fun e w' hq => ⟨v, s', hk, hm, hq⟩

theorem OutK.one {ρ : Ren} {s : AState} {w : World} {K : CK} {e : AExit} {a : AAct} {act : Act} (hk : K e a s) (ha : ARel σ ρ a act) (hw : WRel σ N0 w0 ρ s w) (hc : Room M ρ s) : OutK M σ N0 w0 ρ s w K e.to act w :=
  ⟨e, a, s, hk, hc.1, rfl, ρ, ha, Post.refl hw⟩

theorem CodeTo.skip {a : AAct} {s : AState} {K : CK} (h : K .normal a s) : CodeTo M P σ N0 w0 .skip a s K := fun ρ w act ha hw hc => wp_skip (OutK.one h ha hw hc)
theorem CodeTo.label {l : Nat} {a : AAct} {s : AState} {K : CK} (h : K .normal a s) : CodeTo M P σ N0 w0 (.label l) a s K := fun ρ w act ha hw hc => wp_label (OutK.one h ha hw hc)
theorem CodeTo.exit {id : Nat} {a : AAct} {s : AState} {K : CK} (h : K (.exit id) a s) : CodeTo M P σ N0 w0 (.exit id) a s K := fun ρ w act ha hw hc => wp_exit (OutK.one h ha hw hc)
theorem CodeTo.goto {l : Nat} {a : AAct} {s : AState} {K : CK} (h : K (.goto l) a s) : CodeTo M P σ N0 w0 (.goto l) a s K := fun ρ w act ha hw hc => wp_goto (OutK.one h ha hw hc)
theorem CodeTo.ret {a : AAct} {s : AState} {K : CK} (h : K .ret a s) : CodeTo M P σ N0 w0 .ret a s K := fun ρ w act ha hw hc => wp_ret (OutK.one h ha hw hc)

/-- What follows code in a row: the second part, where the first one ends as it should. -/
def Then (M : Nat) (P : Program) (σ : Syms) (N0 : Nat) (w0 : World) (y : Code) (K : CK) : CK
  | .normal, a, s => CodeTo M P σ N0 w0 y a s K
  | e, a, s => K e a s

theorem CodeTo.seq {x y : Code} {a : AAct} {s : AState} {K : CK} (h : CodeTo M P σ N0 w0 x a s (Then M P σ N0 w0 y K)) : CodeTo M P σ N0 w0 (.seq x y) a s K := by
  intro ρ w act ha hw hc
  refine wp_seq (wp_mono (h ρ w act ha hw hc) fun e2 act1 w1 hq => ?_)
  obtain ⟨e, a1, s1, hk, hm, rfl, ρ1, ha1, hP⟩ := hq
  cases e with
  | normal => exact wp_mono (hk ρ1 w1 act1 ha1 hP.wrel (hc.post hP hm)) fun _ _ _ hq => hq.of hP hc hm
  | exit id => exact ⟨_, a1, s1, hk, hm, rfl, ρ1, ha1, hP⟩
  | goto l => exact ⟨_, a1, s1, hk, hm, rfl, ρ1, ha1, hP⟩
  | ret => exact ⟨_, a1, s1, hk, hm, rfl, ρ1, ha1, hP⟩

theorem CodeTo.cond {c : Operand} {x y : Code} {a : AAct} {s : AState} {K : CK} {b : Bool} (hb : aev a c = .ok (.lit (.bool b))) (h : CodeTo M P σ N0 w0 (bif b then x else y) a s K) : CodeTo M P σ N0 w0 (.cond c x y) a s K := by
  intro ρ w act ha hw hc
  have hcv : act.eval c = .bool b := asBoolLit_ok (a := .lit (.bool b)) rfl (aev_of c (fun t v _ hv => ha.get t v hv) _ hb)
  refine wp_cond hcv ?_
  cases b with
  | true => exact h ρ w act ha hw hc
  | false => exact h ρ w act ha hw hc

/-- Behind a block. -/
def OutOf (id : Nat) (K : CK) : CK
  | .exit id', a, s => K (bif Nat.beq id' id then .normal else .exit id') a s
  | e, a, s => K e a s

theorem CodeTo.block {id : Nat} {x : Code} {a : AAct} {s : AState} {K : CK} (h : CodeTo M P σ N0 w0 x a s (OutOf id K)) : CodeTo M P σ N0 w0 (.block id x) a s K := by
  intro ρ w act ha hw hc
  refine wp_block (wp_mono (h ρ w act ha hw hc) fun e2 act1 w1 hq => ?_)
  obtain ⟨e, a1, s1, hk, hm, rfl, ρ1, ha1, hP⟩ := hq
  cases e with
  | exit id' =>
    by_cases hid : id' = id
    · subst hid
      have : Nat.beq id' id' = true := Nat.beq_refl _
      simp only [AExit.to, Exit.inBlock, if_true]
      simp only [OutOf, this, cond_true] at hk
      exact ⟨_, a1, s1, hk, hm, rfl, ρ1, ha1, hP⟩
    · have : Nat.beq id' id = false := by
        cases hq : Nat.beq id' id with
        | false => rfl
        | true => exact absurd (Nat.eq_of_beq_eq_true hq) hid
      simp only [AExit.to, Exit.inBlock, hid, if_false]
      simp only [OutOf, this, cond_false] at hk
      exact ⟨_, a1, s1, hk, hm, rfl, ρ1, ha1, hP⟩
  | normal => exact ⟨_, a1, s1, hk, hm, rfl, ρ1, ha1, hP⟩
  | goto l => exact ⟨_, a1, s1, hk, hm, rfl, ρ1, ha1, hP⟩
  | ret => exact ⟨_, a1, s1, hk, hm, rfl, ρ1, ha1, hP⟩

/-- Behind a round. -/
def Round (J : AAct → AState → Prop) (K : CK) : CK
  | .normal, a, s => J a s
  | e, a, s => K e a s

theorem CodeTo.loop {x : Code} {J : Nat → AAct → AState → Prop} {K : CK} (hb : ∀ n a s, J n a s → CodeTo M P σ N0 w0 x a s (Round (fun a s => ∃ m, m < n ∧ J m a s) K)) :
    ∀ n a s, J n a s → CodeTo M P σ N0 w0 (.loop x) a s K := by
  have key : ∀ n a s, J n a s → ∀ ρ w act, ARel σ ρ a act → WRel σ N0 w0 ρ s w → Room M ρ s → ∀ b k cs, Comes' P (lone (b.at act (.code x :: .inLoop x :: k)) cs w) b k cs (OutK M σ N0 w0 ρ s w K) := by
    intro n
    induction n using Nat.strongRecOn with
    | _ n ih =>
      intro a s hJ ρ w act ha hw hc b k cs
      obtain ⟨e2, act1, w1, ⟨e, a1, s1, hk, hm, hq, ρ1, ha1, hP⟩, harr⟩ := hb n a s hJ ρ w act ha hw hc b (.inLoop x :: k) cs
      cases e with
      | normal =>
        subst hq
        obtain ⟨m, hmn, hJ1⟩ := hk
        obtain ⟨e3, act2, w2, hq2, harr2⟩ := ih m hmn a1 s1 hJ1 ρ1 w1 act1 ha1 hP.wrel (hc.post hP hm) b k cs
        exact ⟨e3, act2, w2, hq2.of hP hc hm, .of_steps (Steps.trans harr (.one step_inLoop)) harr2⟩
      | exit id => subst hq; exact ⟨_, act1, w1, ⟨_, a1, s1, hk, hm, rfl, ρ1, ha1, hP⟩, .pass (x := .inLoop x) rfl (fun _ _ => .inl (by simp [AExit.to])) harr⟩
      | goto l => subst hq; exact ⟨_, act1, w1, ⟨_, a1, s1, hk, hm, rfl, ρ1, ha1, hP⟩, .pass (x := .inLoop x) rfl (fun _ _ => .inl (by simp [AExit.to])) harr⟩
      | ret => subst hq; exact ⟨_, act1, w1, ⟨_, a1, s1, hk, hm, rfl, ρ1, ha1, hP⟩, .pass (x := .inLoop x) rfl (fun _ _ => .inl (by simp [AExit.to])) harr⟩
  intro n a s hJ ρ w act ha hw hc b k cs
  obtain ⟨e2, act', w', hq, harr⟩ := key n a s hJ ρ w act ha hw hc b k cs
  exact ⟨e2, act', w', hq, .of_steps (.one step_loop) harr⟩

/-- Behind a part of a scope. -/
def Scoped (M : Nat) (P : Program) (σ : Syms) (N0 : Nat) (w0 : World) (body : Code) (K : CK) : CK
  | .goto l, a, s => match findLabel body l with
    | some rest => InScopeTo M P σ N0 w0 body rest a s K
    | none => K (.goto l) a s
  | e, a, s => K e a s

theorem InScopeTo.of {body c : Code} {a : AAct} {s : AState} {K : CK} (h : CodeTo M P σ N0 w0 c a s (Scoped M P σ N0 w0 body K)) : InScopeTo M P σ N0 w0 body c a s K := by
  intro ρ w act ha hw hc b k cs
  obtain ⟨e2, act1, w1, ⟨e, a1, s1, hk, hm, hq, ρ1, ha1, hP⟩, harr⟩ := h ρ w act ha hw hc b (.inScope body :: k) cs
  cases e with
  | normal => subst hq; exact ⟨.normal, act1, w1, ⟨_, a1, s1, hk, hm, rfl, ρ1, ha1, hP⟩, Steps.trans harr (.one step_inScope)⟩
  | exit id => subst hq; exact ⟨.exit id, act1, w1, ⟨_, a1, s1, hk, hm, rfl, ρ1, ha1, hP⟩, fun k' hk => harr k' (by simp [exitTo, hk])⟩
  | ret => subst hq; exact ⟨.ret, act1, w1, ⟨_, a1, s1, hk, hm, rfl, ρ1, ha1, hP⟩, harr⟩
  | goto l =>
    subst hq
    simp only [Scoped] at hk
    split at hk
    · rename_i rest hl
      obtain ⟨e3, act2, w2, hq2, harr2⟩ := hk ρ1 w1 act1 ha1 hP.wrel (hc.post hP hm) b k cs
      exact ⟨e3, act2, w2, hq2.of hP hc hm, .of_steps (harr _ (by simp [gotoIn, hl])) harr2⟩
    · rename_i hl
      exact ⟨.goto l, act1, w1, ⟨_, a1, s1, hk, hm, rfl, ρ1, ha1, hP⟩, fun k' hk => harr k' (by simp [gotoIn, hl, hk])⟩

theorem CodeTo.scope {x : Code} {a : AAct} {s : AState} {K : CK} (h : InScopeTo M P σ N0 w0 x x a s K) : CodeTo M P σ N0 w0 (.scope x) a s K := by
  intro ρ w act ha hw hc b k cs
  obtain ⟨e2, act', w', hq, harr⟩ := h ρ w act ha hw hc b k cs
  exact ⟨e2, act', w', hq, .of_steps (.one step_scope) harr⟩

theorem CodeTo.region {id : Nat} {ops : Array Oper} {a : AAct} {s : AState} {K : CK} (h : OpsTo M P σ N0 w0 ops ops.toList a s (K .normal)) : CodeTo M P σ N0 w0 (.region id ops false) a s K :=
  fun ρ w act ha hw hc => wp_region_list (h ρ w act _ ha hw hc fun act' w' a' s' ρ' hk hm h1 h2 => ⟨.normal, a', s', hk, hm, rfl, ρ', h1, h2⟩)

/-! ### Operations -/
theorem OpsTo.nil {ops : Array Oper} {a : AAct} {s : AState} {K : AAct → AState → Prop} (h : K a s) : OpsTo M P σ N0 w0 ops [] a s K :=
  fun ρ w act Q ha hw hc hQ => hQ act w a s ρ h hc.1 ha (Post.refl hw)

theorem OpsTo.mono {ops : Array Oper} {l : List Oper} {a : AAct} {s : AState} {K K' : AAct → AState → Prop} (h : OpsTo M P σ N0 w0 ops l a s K) (hk : ∀ a s, K a s → K' a s) : OpsTo M P σ N0 w0 ops l a s K' :=
  fun ρ w act Q ha hw hc hQ => h ρ w act Q ha hw hc fun act' w' a' s' ρ' h1 hm h2 h3 => hQ act' w' a' s' ρ' (hk _ _ h1) hm h2 h3

theorem OpsTo.behind {ops : Array Oper} {l : List Oper} {ρ ρ1 : Ren} {s s1 : AState} {w w1 : World} {a1 : AAct} {act1 : Act} {K : AAct → AState → Prop} {Q : Exit → Act → World → Prop} (h : OpsTo M P σ N0 w0 ops l a1 s1 K)
    (ha : ARel σ ρ1 a1 act1) (hP : Post σ N0 w0 ρ s w ρ1 s1 w1) (hc : Room M ρ s) (hm : s1.next ≤ M) (hQ : ∀ act' w' a' s' ρ', K a' s' → s'.next ≤ M → ARel σ ρ' a' act' → Post σ N0 w0 ρ s w ρ' s' w' → Q .normal act' w') : wpList P ops Q l act1 w1 :=
  h ρ1 w1 act1 Q ha hP.wrel (hc.post hP hm) fun act' w' a' s' ρ' h1 hm2 h2 h3 => hQ act' w' a' s' ρ' h1 hm2 h2 (hP.trans (hc.fresh hm) h3)

/-- An operation that the machine runs. -/
theorem OpsTo.step {rec : Rec} (hrec : RunOk P σ N0 w0 rec) {ops : Array Oper} {o : Oper} {l : List Oper} {a a1 : AAct} {s s1 : AState} {K : AAct → AState → Prop} (h1 : stepOp P rec ops.toList o a s = .ok (a1, s1)) (hm : s1.next ≤ M)
    (h : OpsTo M P σ N0 w0 ops l a1 s1 K) : OpsTo M P σ N0 w0 ops (o :: l) a s K := by
  intro ρ w act Q ha hw hc hQ
  unfold stepOp at h1
  replace h1 := R.bind_ok' h1
  obtain ⟨b, hb, h1⟩ := h1
  have hwant : Region.wanted o (yielded ops act.tmps) = b := wantedA_ok hb fun t v _ hv => ha.get t v hv
  show (if Region.wanted o (yielded ops act.tmps) then _ else _)
  rw [hwant]
  cases b with
  | true =>
    rw [cond_true] at h1
    replace h1 := R.bind_ok' h1
    obtain ⟨⟨v, s2⟩, hx, h1⟩ := h1
    replace h1 := R.bind_ok' h1
    obtain ⟨a2, hp, h1⟩ := h1
    cases h1
    simp only [if_true]
    refine .inl (exec_sound hrec.toRec (r := (v, s2)) hw (hc.fresh hm) (fun x _ => aev_of x fun t v _ hv => ha.get t v hv) hx fun u w' ρ' hv hP => ?_)
    exact h.behind (ha.put hP.ext hv hp) hP hc hm hQ
  | false =>
    rw [cond_false] at h1
    replace h1 := R.bind_ok' h1
    obtain ⟨a2, hp, h1⟩ := h1
    cases h1
    simp only [Bool.false_eq_true, if_false]
    exact h.behind (ha.put (Ext.refl _) VRel.undef hp) (Post.refl hw) hc hc.1 hQ

/-- A call of a function. -/
theorem OpsTo.call {ops : Array Oper} {o : Oper} {l : List Oper} {a : AAct} {s s1 : AState} {f : FuncId} {args : List AVal} {K : AAct → AState → Prop} (hg : wantedA ops.toList a o = .ok true) (h1 : aop P (aev a) o s = .ok (.enter f args, s1)) (hm : s1.next ≤ M)
    (h : CallTo M P σ N0 w0 f args s fun v s2 => ∃ a2, a.put o.dst v = .ok a2 ∧ OpsTo M P σ N0 w0 ops l a2 s2 K) : OpsTo M P σ N0 w0 ops (o :: l) a s K := by
  intro ρ w act Q ha hw hc hQ
  have hwant : Region.wanted o (yielded ops act.tmps) = true := wantedA_ok hg fun t v _ hv => ha.get t v hv
  show (if Region.wanted o (yielded ops act.tmps) then _ else _)
  rw [hwant]
  simp only [if_true]
  left
  unfold Oper.wp
  rcases aop_sound hw (hc.fresh hm) (fun x _ => aev_of x fun t v _ hv => ha.get t v hv) h1 (by simp) with ⟨v', e1, _⟩ | ⟨f', args', us, e1, e2, hp, hv, hr⟩
  · cases e1
  · cases e1
    rw [hr, Oper.upon_enter]
    refine (h ρ w us hw hc hv).mono fun e w' ⟨v, s2, ⟨a2, hp2, hk⟩, hm2, u, ρ', he, h3, h4⟩ => ?_
    subst he
    exact hk.behind (ha.put h4.ext h3 hp2) h4 hc hm2 hQ

/-! ### The next one of a ranged map -/
/-- What comes next of a ranged map: whichever is left. -/
theorem OpsTo.next {ops : Array Oper} {o : Oper} {it : Operand} {l : List Oper} {a : AAct} {s : AState} {r m since last c : Nat} {seen : List Nat} {es : List AEntry} {K : AAct → AState → Prop} (hg : wantedA ops.toList a o = .ok true) (ho : o.op = .next it false)
    (hit : aev a it = .ok (.ptr r 0)) (hr : s.heap.get r = some (.iter (some m) since seen last)) (hm : s.heap.get m = some (.map es c)) (hold : es.all (fun e => decide (e.born < since)) = true) (hsl : since ≤ last)
    (hdone : leftA es seen = [] → ∃ a1, a.put o.dst (.tup [.lit (.bool false)]) = .ok a1 ∧ OpsTo M P σ N0 w0 ops l a1 s K)
    (hmore : ∀ e ∈ leftA es seen, vOne e.key = true ∧ ∃ s1 a1, s.write r (.iter (some m) since (seen ++ [e.born]) c) = .ok s1 ∧ a.put o.dst (.tup [.lit (.bool true), .lit e.key, e.val]) = .ok a1 ∧ OpsTo M P σ N0 w0 ops l a1 s1 K) :
    OpsTo M P σ N0 w0 ops (o :: l) a s K := by
  intro ρ w act Q ha hw hc hQ
  have hwant : Region.wanted o (yielded ops act.tmps) = true := wantedA_ok hg fun t v _ hv => ha.get t v hv
  show (if Region.wanted o (yielded ops act.tmps) then _ else _)
  rw [hwant]
  simp only [if_true]
  left
  obtain ⟨L, hL, hp⟩ := aev_of (σ := σ) (ρ := ρ) it (fun t v _ hv => ha.get t v hv) _ hit
  obtain ⟨hi0, m', hi1, hi2⟩ := hw.heap _ _ hr L hL
  cases m' with
  | none => exact hi2.elim
  | some bm =>
    obtain ⟨M1, hM, rfl⟩ := hi2
    obtain ⟨ms, hm1, hm2⟩ := hw.heap _ _ hm M1 hM
    have hleft := ERels.left (σ := σ) (ρ := ρ) seen hm2
    have hlen : (leftOf ms seen.toArray).toList = ms.toList.filter fun e => !seen.toArray.contains e.born := by unfold leftOf; rw [Array.toList_filter]
    have hold' : ∀ x ∈ ms.toList, x.born < since := fun x hx => by
      obtain ⟨e, he, _, h2, _⟩ := hm2.mem x hx
      rw [h2]
      simpa using List.all_eq_true.1 hold e he
    unfold Oper.wp
    have hex : ∀ (u : Value) (w' : World), (Instr.next (.pointer (some ⟨L.blk, 0, none⟩)) false o.type).run P w = .ok u w' → (execOp act.eval o).run P w = .ok (.value u) w' := fun u w' h => by
      unfold execOp
      rw [ho]
      show Sem.run P (do pure (Next.value (← Instr.next (act.eval it) false o.type))) w = _
      rw [hp, hi0, Nat.add_zero, Sem.run_bind, h]
      rfl
    rcases run_next_at (P := P) w o.type L.blk M1.blk since last seen.toArray ms c hi1 hm1 hold' hsl with ⟨h0, hrun⟩ | ⟨e, he, w1, hw1, hrun⟩
    · rw [hex _ _ hrun, Oper.upon_value]
      have : leftA es seen = [] := by
        have h1 := hleft.length
        rw [← hlen, Array.length_toList, h0] at h1
        exact List.length_eq_zero_iff.1 h1.symm
      obtain ⟨a1, hp1, hk⟩ := hdone this
      exact hk.behind (ha.put (Ext.refl _) (v := .tup [.lit (.bool false)]) (u := .tuple #[.bool false]) ⟨#[.bool false], rfl, .bool false, [], rfl, ⟨rfl, rfl⟩, rfl⟩ hp1) (Post.refl hw) hc hc.1 hQ
    · rw [hex _ _ hrun, Oper.upon_value]
      rw [hlen] at he
      obtain ⟨e', he', k1, k2, k3⟩ := hleft.mem e he
      obtain ⟨hk1, s1, a1, hs1, hp1, hk⟩ := hmore e' he'
      have hro : s.ro ≤ r := (write_ok' hs1).1
      have hN := (hw.rng r L hL).2.1 hro
      have hlt := (hw.rng r L hL).1
      have e1 : w1.heap = w.heap := by rcases hw1 with rfl | rfl <;> rfl
      have hbl : Below N0 w (ChangeMaps.setBlock w1 L.blk (.mapIter (some M1.blk) since (seen.toArray.push e.born) c)) := by
        have hb1 : Below N0 w w1 := by rcases hw1 with rfl | rfl; exact Below.refl _ _; exact (Below.refl _ _).drew
        refine ⟨hb1.os, hb1.tape, hb1.output, by simp [ChangeMaps.setBlock, e1], fun k hk => ?_⟩
        simp only [ChangeMaps.setBlock, e1]
        rw [Array.getElem?_setIfInBounds, if_neg (by omega)]
      have hP := Post.write hw hs1 (by rw [hr]; simp) hL hbl (by simp [ChangeMaps.setBlock, e1]) (fun k hk => by
        simp only [ChangeMaps.setBlock, e1]
        rw [Array.getElem?_setIfInBounds, if_neg (fun h => hk h.symm)]) (show ORel σ ρ L true _ (.iter (some m) since (seen ++ [e'.born]) c) from
        ⟨hi0, some M1.blk, by simp [ChangeMaps.setBlock, e1, hlt, k2], M1, hM, rfl⟩)
      refine hk.behind (ha.put (Ext.refl _) (v := .tup [.lit (.bool true), .lit e'.key, e'.val]) (u := .tuple #[.bool true, e.key, e.val]) ⟨#[.bool true, e.key, e.val], rfl, .bool true, [e.key, e.val], rfl, ⟨rfl, rfl⟩, e.key, [e.val], rfl, ⟨k1, hk1⟩, e.val, [], rfl, k3, rfl⟩ hp1) hP hc (by rw [(write_ok' hs1).2.1]; exact hc.1) hQ

/-! ### Calls -/
theorem CallTo.body {f : FuncId} {args : List AVal} {s : AState} {K : VK} {fn : Func} {body : Code} {t : Tr AVal} (hfn : P.funcs[f]? = some fn) (hb : fn.body = some body) (hn : Nat.ble args.length fn.ntmps = true ∧ Nat.ble fn.ntmps lim = true)
    (ht : ∀ j, t.get j = if 0 ≤ j ∧ j < 0 + args.length then args[j - 0]? else (Tr.leaf : Tr AVal).get j)
    (h : CodeTo M P σ N0 w0 body ⟨t, fn.ntmps⟩ s fun e a s' => (e = .normal ∨ e = .ret) ∧ ∃ vs, resA P a s' fn.results.toList = .ok vs ∧ K (retA vs) s') : CallTo M P σ N0 w0 f args s K := by
  intro ρ w us hw hc hv
  have hn1 := Nat.le_of_ble_eq_true hn.1
  have hn2 := Nat.le_of_ble_eq_true hn.2
  have ha := ARel.init (n := fn.ntmps) hv hn1 ht
  refine calls_of_wp hfn hb ?_
  refine wp_mono (h ρ w _ ha hw hc) fun e2 act' w' ⟨e, a', s', ⟨he, vs, hr, hk⟩, hm, h8, ρ', h9, h10⟩ => ?_
  obtain ⟨u, h11, h12⟩ := results_ok h9 h10.wrel hr
  have hb : act'.defers = [] ∧ ∃ v, (results fn act'.tmps).run P w' = .ok v w' ∧ ∃ v' s', K v' s' ∧ s'.next ≤ M ∧ ∃ u ρ', Ending.returned v = .returned u ∧ VRel σ ρ' v' u ∧ Post σ N0 w0 ρ s w ρ' s' w' :=
    ⟨h9.defers, u, h11, _, s', hk, hm, u, ρ', rfl, h12, h10⟩
  rcases he with rfl | rfl
  · cases h8; exact hb
  · cases h8; exact hb

/-- A loop, round by round. -/
def LoopTo (M : Nat) (P : Program) (σ : Syms) (N0 : Nat) (w0 : World) (x : Code) (a : AAct) (s : AState) (K : CK) : Prop :=
  ∀ ρ w act, ARel σ ρ a act → WRel σ N0 w0 ρ s w → Room M ρ s → ∀ b k cs, Comes' P (lone (b.at act (.code x :: .inLoop x :: k)) cs w) b k cs (OutK M σ N0 w0 ρ s w K)

theorem LoopTo.of {x : Code} {a : AAct} {s : AState} {K : CK} (h : CodeTo M P σ N0 w0 x a s (Round (fun a s => LoopTo M P σ N0 w0 x a s K) K)) : LoopTo M P σ N0 w0 x a s K := by
  intro ρ w act ha hw hc b k cs
  obtain ⟨e2, act1, w1, ⟨e, a1, s1, hk, hm, hq, ρ1, ha1, hP⟩, harr⟩ := h ρ w act ha hw hc b (.inLoop x :: k) cs
  cases e with
  | normal =>
    subst hq
    obtain ⟨e3, act2, w2, hq2, harr2⟩ := hk ρ1 w1 act1 ha1 hP.wrel (hc.post hP hm) b k cs
    exact ⟨e3, act2, w2, hq2.of hP hc hm, .of_steps (Steps.trans harr (.one step_inLoop)) harr2⟩
  | exit id => subst hq; exact ⟨_, act1, w1, ⟨_, a1, s1, hk, hm, rfl, ρ1, ha1, hP⟩, .pass (x := .inLoop x) rfl (fun _ _ => .inl (by simp [AExit.to])) harr⟩
  | goto l => subst hq; exact ⟨_, act1, w1, ⟨_, a1, s1, hk, hm, rfl, ρ1, ha1, hP⟩, .pass (x := .inLoop x) rfl (fun _ _ => .inl (by simp [AExit.to])) harr⟩
  | ret => subst hq; exact ⟨_, act1, w1, ⟨_, a1, s1, hk, hm, rfl, ρ1, ha1, hP⟩, .pass (x := .inLoop x) rfl (fun _ _ => .inl (by simp [AExit.to])) harr⟩

theorem CodeTo.loopTo {x : Code} {a : AAct} {s : AState} {K : CK} (h : LoopTo M P σ N0 w0 x a s K) : CodeTo M P σ N0 w0 (.loop x) a s K := by
  intro ρ w act ha hw hc b k cs
  obtain ⟨e2, act', w', hq, harr⟩ := h ρ w act ha hw hc b k cs
  exact ⟨e2, act', w', hq, .of_steps (.one step_loop) harr⟩

/-- A region that draws its order, run by the machine. -/
theorem CodeTo.draw {rec : Rec} (hrec : RunOk P σ N0 w0 rec) (hmx : P.follows .mixedOrders = true) {id : Nat} {ops : Array Oper} {a a1 : AAct} {s s1 : AState} {K : CK} (h : drawRun P rec ops.toList a s = .ok (a1, s1)) (hm : s1.next ≤ M) (hk : K .normal a1 s1) :
    CodeTo M P σ N0 w0 (.region id ops true) a s K :=
  fun ρ w act ha hw hc => draw_sound hrec.toRec hmx h ha hw (hc.fresh hm) fun act' w' ρ' h2 h3 => ⟨.normal, a1, s1, hk, hm, rfl, ρ', h2, h3⟩

end
end Go.Am
