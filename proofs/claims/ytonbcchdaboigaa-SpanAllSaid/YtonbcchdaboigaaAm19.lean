/-
  The abstract machine is sound: a task of any size.
-/
import Derived.Test.YtonbcchdaboigaaAm18
namespace Go.Am
open Go Go.RowKit
set_option linter.unusedVariables false

section
variable {σ : Syms} {N0 : Nat} {w0 : World} {P : Program}

def AExit.to : AExit → Exit
  | .normal => .normal
  | .exit id => .exit id
  | .goto l => .goto l
  | .ret => .ret

def Out (σ : Syms) (N0 : Nat) (w0 : World) (ρ : Ren) (s : AState) (w : World) (e : AExit) (a' : AAct) (s' : AState) : Exit → Act → World → Prop :=
  fun e2 act' w' => e2 = e.to ∧ ∃ ρ', ARel σ ρ' a' act' ∧ Post σ N0 w0 ρ s w ρ' s' w'

def Comes' (P : Program) (m : Machine) (b : Frame) (k : List Item) (cs : List Frame) (Q : Exit → Act → World → Prop) : Prop :=
  ∃ e a w, Q e a w ∧ Arrives P m b k cs e a w

structure PrimOk (P : Program) (σ : Syms) (N0 : Nat) (w0 : World) (f : FuncId) (p : List AVal → AState → R (AVal × AState)) : Prop where
  abs : ∀ args s v s', p args s = .ok (v, s') → Abs s s'
  sound : ∀ args s v s', p args s = .ok (v, s') → ∀ ρ w (us : Array Value), WRel σ N0 w0 ρ s w → Fresh ρ s.next s'.next → VRels σ ρ args us.toList →
    Calls P f us w (fun e w' => ∃ u ρ', e = .returned u ∧ VRel σ ρ' v u ∧ Post σ N0 w0 ρ s w ρ' s' w')

/-- What facts are worth. -/
def FactsOk (P : Program) (σ : Syms) (facts : Facts) : Prop :=
  ∀ op vs v, facts op vs = some v → ∀ ρ (e : Operand → Value) w, VRels σ ρ vs (op.operands.toList.map e) → ∃ u, (∀ o : Oper, o.op = op → (execOp e o).run P w = .ok (.value u) w) ∧ VRel σ ρ v u

structure RunOk (P : Program) (σ : Syms) (N0 : Nat) (w0 : World) (rec : Rec) : Prop where
  abs : ∀ t s d s', rec t s = .ok (d, s') → Abs s s'
  call : ∀ f args s d s', rec (.call f args) s = .ok (d, s') → plainFn P f = true → ∀ ρ w (us : Array Value), WRel σ N0 w0 ρ s w → Fresh ρ s.next s'.next → VRels σ ρ args us.toList →
    ∃ v, d = .val v ∧ Calls P f us w (fun e w' => ∃ u ρ', e = .returned u ∧ VRel σ ρ' v u ∧ Post σ N0 w0 ρ s w ρ' s' w')
  ask : ∀ op vs s d s', rec (.ask op vs) s = .ok (d, s') → (∀ s2, ∃ s3, rec (.ask op vs) s2 = .ok (d, s3)) ∧ ∃ v, d = .val v ∧
    ∀ ρ (e : Operand → Value) w, VRels σ ρ vs (op.operands.toList.map e) → ∃ u, (∀ o : Oper, o.op = op → (execOp e o).run P w = .ok (.value u) w) ∧ VRel σ ρ v u
  code : ∀ c a s e a' s', rec (.code c a) s = .ok (.out e a', s') → ∀ ρ w act, ARel σ ρ a act → WRel σ N0 w0 ρ s w → Fresh ρ s.next s'.next → c.wp P (Out σ N0 w0 ρ s w e a' s') act w
  loop : ∀ x a s e a' s', rec (.code (.loop x) a) s = .ok (.out e a', s') → ∀ ρ w act, ARel σ ρ a act → WRel σ N0 w0 ρ s w → Fresh ρ s.next s'.next → ∀ b k cs,
    Comes' P (lone (b.at act (.code x :: .inLoop x :: k)) cs w) b k cs (Out σ N0 w0 ρ s w e a' s')
  scope : ∀ body c a s e a' s', rec (.inscope body c a) s = .ok (.out e a', s') → ∀ ρ w act, ARel σ ρ a act → WRel σ N0 w0 ρ s w → Fresh ρ s.next s'.next → ∀ b k cs,
    Comes' P (lone (b.at act (.code c :: .inScope body :: k)) cs w) b k cs (Out σ N0 w0 ρ s w e a' s')

theorem RunOk.toRec {rec : Rec} (h : RunOk P σ N0 w0 rec) : RecOk P σ N0 w0 rec := ⟨h.call, fun f args s d s' => h.abs _ s d s', h.ask⟩

theorem doCode_ok {rec : Rec} {c : Code} {a : AAct} {s : AState} {r : AExit × AAct × AState} (h : doCode rec c a s = .ok r) : rec (.code c a) s = .ok (.out r.1 r.2.1, r.2.2) := by
  unfold doCode at h
  replace h := R.bind_ok' h
  obtain ⟨⟨d, s1⟩, h1, h⟩ := h
  cases d with
  | val v => cases h
  | out e a => cases h; exact h1

theorem ARel.mono {ρ ρ' : Ren} {a : AAct} {act : Act} (h : ARel σ ρ a act) (he : Ext ρ ρ') : ARel σ ρ' a act :=
  ⟨h.size, h.defers, fun t v hv => let ⟨u, h1, h2⟩ := h.get t v hv; ⟨u, h1, VRel.mono he _ _ h2⟩⟩

/-- Where the second part begins, none of its new blocks is known. -/
theorem Post.fresh {ρ ρ' : Ren} {s s1 : AState} {w w1 : World} (h : Post σ N0 w0 ρ s w ρ' s1 w1) {n : Nat} (hf : Fresh ρ s.next n) : Fresh ρ' s1.next n := fun b h1 h2 => by
  cases e : ρ' b with
  | none => rfl
  | some L =>
    have := h.next
    rcases h.new b L e with h3 | ⟨_, h4, _⟩
    · rw [hf b (by omega) h2] at h3; cases h3
    · omega

theorem Out.of {ρ : Ren} {s s1 s2 : AState} {w w1 : World} {ρ1 : Ren} {e : AExit} {a' : AAct} (h : Post σ N0 w0 ρ s w ρ1 s1 w1) (hf : Fresh ρ s.next s1.next) {e2 : Exit} {act' : Act} {w' : World}
    (hq : Out σ N0 w0 ρ1 s1 w1 e a' s2 e2 act' w') : Out σ N0 w0 ρ s w e a' s2 e2 act' w' := by
  obtain ⟨h1, ρ', h2, h3⟩ := hq
  exact ⟨h1, ρ', h2, h.trans hf h3⟩

/-! ### Straight regions -/
theorem stepOp_abs {rec : Rec} (hrec : RecOk P σ N0 w0 rec) {ops : List Oper} {o : Oper} {a : AAct} {s : AState} {r : AAct × AState} (h : stepOp P rec ops o a s = .ok r) : Abs s r.2 := by
  unfold stepOp at h
  replace h := R.bind_ok' h
  obtain ⟨b, _, h⟩ := h
  cases b with
  | true =>
    rw [cond_true] at h
    replace h := R.bind_ok' h
    obtain ⟨p, h1, h⟩ := h
    replace h := R.bind_ok' h
    obtain ⟨_, _, h⟩ := h
    cases h
    exact exec_abs hrec h1
  | false =>
    rw [cond_false] at h
    replace h := R.bind_ok' h
    obtain ⟨_, _, h⟩ := h
    cases h
    exact Abs.refl _

theorem runOps_abs {rec : Rec} (hrec : RecOk P σ N0 w0 rec) {ops : List Oper} : ∀ {l : List Oper} {a : AAct} {s : AState} {r : AAct × AState}, runOps P rec ops l a s = .ok r → Abs s r.2
  | [], a, s, r, h => by cases h; exact Abs.refl _
  | o :: l, a, s, r, h => by
    unfold runOps at h
    replace h := R.bind_ok' h
    obtain ⟨⟨a1, s1⟩, h1, h⟩ := h
    exact (stepOp_abs hrec h1).trans (runOps_abs hrec h)

theorem runOps_sound {rec : Rec} (hrec : RecOk P σ N0 w0 rec) {ops : Array Oper} {Q : Exit → Act → World → Prop} {a' : AAct} {s' : AState} : ∀ {l : List Oper} {a : AAct} {s : AState}, runOps P rec ops.toList l a s = .ok (a', s') →
    ∀ {ρ : Ren} {w : World} {act : Act}, ARel σ ρ a act → WRel σ N0 w0 ρ s w → Fresh ρ s.next s'.next → (∀ act' w' ρ', ARel σ ρ' a' act' → Post σ N0 w0 ρ s w ρ' s' w' → Q .normal act' w') → wpList P ops Q l act w
  | [], a, s, h, ρ, w, act, ha, hw, hf, hQ => by
    cases h
    exact hQ act w ρ ha (Post.refl hw)
  | o :: l, a, s, h, ρ, w, act, ha, hw, hf, hQ => by
    unfold runOps at h
    replace h := R.bind_ok' h
    obtain ⟨⟨a1, s1⟩, h1, h⟩ := h
    replace h : runOps P rec ops.toList l a1 s1 = .ok (a', s') := h
    have hab2 := runOps_abs hrec h
    have hab1 := stepOp_abs hrec h1
    replace hab2 : Abs s1 s' := hab2
    replace hab1 : Abs s s1 := hab1
    have hf1 : Fresh ρ s.next s1.next := hf.mono (Nat.le_refl _) hab2.next
    unfold stepOp at h1
    replace h1 := R.bind_ok' h1
    obtain ⟨b, hb, h1⟩ := h1
    have hwant : Region.wanted o (yielded ops act.tmps) = b := wantedA_ok hb fun t v _ hv => ha.get t v hv
    show (if Region.wanted o (yielded ops act.tmps) then _ else _)
    rw [hwant]
    cases b with
    | true =>
      rw [cond_true] at h1
      replace h1 := R.bind_ok' h1
      obtain ⟨⟨v, s2⟩, hx, h1⟩ := h1
      replace h1 := R.bind_ok' h1
      obtain ⟨a2, hp, h1⟩ := h1
      cases h1
      simp only [if_true]
      refine .inl (exec_sound hrec (r := (v, s2)) hw hf1 (fun x _ => aev_of x fun t v _ hv => ha.get t v hv) hx fun u w' ρ' hv hP => ?_)
      replace hP : Post σ N0 w0 ρ s w ρ' s2 w' := hP
      exact runOps_sound hrec h (ha.put hP.ext hv hp) hP.wrel (hP.fresh hf) fun act' w'' ρ'' h3 h4 => hQ act' w'' ρ'' h3 (hP.trans hf1 h4)
    | false =>
      rw [cond_false] at h1
      replace h1 := R.bind_ok' h1
      obtain ⟨a2, hp, h1⟩ := h1
      cases h1
      simp only [Bool.false_eq_true, if_false]
      exact runOps_sound hrec h (ha.put (Ext.refl _) VRel.undef hp) hw hf hQ

theorem drawRun_abs {rec : Rec} (hrec : RecOk P σ N0 w0 rec) {ops : List Oper} {a : AAct} {s : AState} {r : AAct × AState} (h : drawRun P rec ops a s = .ok r) : Abs s r.2 := by
  unfold drawRun at h
  replace h := R.bind_ok' h
  obtain ⟨_, h1, h⟩ := h
  replace h := R.bind_ok' h
  obtain ⟨⟨tr, a2, s2⟩, h2, h⟩ := h
  replace h := R.bind_ok' h
  obtain ⟨_, h3, h⟩ := h
  cases h
  obtain ⟨W, hW⟩ := trace_walk h2
  have := hW.absS hrec (i := 0) (j := ops.length) (Nat.zero_le _) (Nat.le_refl _)
  rw [hW.s0, hW.sn] at this
  exact this

/-! ### Calls -/
theorem initTmps_ok {β : Type} : ∀ {args : List AVal} {i : Nat} {t : Tr AVal} {c : Tr AVal → R β} {r : β}, initTmps args i t c = .ok r → i + args.length ≤ lim + 1 →
    ∃ t', c t' = .ok r ∧ ∀ j, t'.get j = if i ≤ j ∧ j < i + args.length then args[j - i]? else t.get j
  | [], i, t, c, r, h, _ => ⟨t, h, fun j => by rw [if_neg (by simp)]⟩
  | v :: l, i, t, c, r, h, hi => by
    unfold initTmps at h
    rw [forceV_eq] at h
    simp only [List.length_cons] at hi
    obtain ⟨t1, h1, h2⟩ := setK_ok (by omega) h
    obtain ⟨t2, h3, h4⟩ := initTmps_ok h1 (by simp only [Nat.succ_eq_add_one]; omega)
    refine ⟨t2, h3, fun j => ?_⟩
    rw [h4, h2]
    simp only [Nat.succ_eq_add_one, List.length_cons]
    by_cases hj : j = i
    · subst hj
      rw [if_neg (by omega), if_pos rfl, if_pos (by omega), Nat.sub_self]
      rfl
    · by_cases hr : i + 1 ≤ j ∧ j < i + 1 + l.length
      · rw [if_pos hr, if_pos (by omega), show j - i = (j - (i + 1)) + 1 by omega, List.getElem?_cons_succ]
      · rw [if_neg hr, if_neg hj, if_neg (by omega)]

theorem ARel.init {ρ : Ren} {args : List AVal} {us : Array Value} {t : Tr AVal} {n : Nat} (hv : VRels σ ρ args us.toList) (hn : args.length ≤ n) (ht : ∀ j, t.get j = if 0 ≤ j ∧ j < 0 + args.length then args[j - 0]? else (Tr.leaf : Tr AVal).get j) :
    ARel σ ρ ⟨t, n⟩ { tmps := us ++ Array.replicate (n - us.size) undef, defers := [] } := by
  have hl : us.size = args.length := by rw [← Array.length_toList]; exact hv.length
  refine ⟨by simp only [Array.size_append, Array.size_replicate]; omega, rfl, fun j v hj => ?_⟩
  replace hj : t.get j = some v := hj
  rw [ht] at hj
  by_cases h : j < args.length
  · rw [if_pos (by omega), Nat.sub_zero] at hj
    obtain ⟨u, h1, h2⟩ := hv.get j v hj
    refine ⟨u, ?_, h2⟩
    rw [Array.getElem?_append_left (by omega)]
    simpa using h1
  · rw [if_neg (by omega)] at hj
    cases j <;> cases hj

def resF (tmps : Array Value) : ResultVar → Sem Value
  | .tmp t => pure (tmps.getD t undef)
  | .cell c t => do loadVar t (← asAddr (tmps.getD c undef))

theorem results_eq (fn : Func) (tmps : Array Value) : results fn tmps = (do let vs ← fn.results.mapM (resF tmps); pure (if h : vs.size = 1 then vs[0] else .tuple vs)) := rfl

theorem resA_ok {ρ : Ren} {a : AAct} {act : Act} {s : AState} {w : World} (ha : ARel σ ρ a act) (hw : WRel σ N0 w0 ρ s w) : ∀ {rs : List ResultVar} {vs : List AVal}, resA P a s rs = .ok vs →
    ∃ us, (rs.mapM (resF act.tmps)).run P w = .ok us w ∧ VRels σ ρ vs us
  | [], vs, h => by
    cases h
    exact ⟨[], by simp, rfl⟩
  | .tmp t :: r, vs, h => by
    unfold resA at h
    replace h := R.bind_ok' h
    obtain ⟨v, h1, h⟩ := h
    replace h := R.bind_ok' h
    obtain ⟨l, h2, h⟩ := h
    cases h
    obtain ⟨us, h3, h4⟩ := resA_ok ha hw h2
    obtain ⟨u, h5, h6⟩ := ha.get t v (R.of_ok h1)
    refine ⟨u :: us, ?_, u, us, rfl, h6, h4⟩
    rw [List.mapM_cons]
    simp only [resF, Sem.run_bind, Sem.run_pure, Result.andThen_ok, h3]
    simp [h5]
  | .cell c t :: r, vs, h => by
    unfold resA at h
    split at h
    · rename_i b o hc
      replace h := R.bind_ok' h
      obtain ⟨v, h1, h⟩ := h
      replace h := R.bind_ok' h
      obtain ⟨l, h2, h⟩ := h
      cases h
      obtain ⟨us, h3, h4⟩ := resA_ok ha hw h2
      obtain ⟨p, h5, L, h6, rfl⟩ := ha.get c _ hc
      obtain ⟨u, h7, h8⟩ := loadA_ok hw h1 h6
      refine ⟨u :: us, ?_, u, us, rfl, h8, h4⟩
      have hp : act.tmps.getD c undef = .pointer (some ⟨L.blk, L.off + o, none⟩) := by simp [h5]
      rw [List.mapM_cons]
      have hc' : (resF act.tmps (.cell c t)).run P w = .ok u w := by
        simp only [resF, hp]
        simp [asAddr, h7]
      simp only [Sem.run_bind, Sem.run_pure, Result.andThen_ok, h3, hc']
    · cases h

def retA : List AVal → AVal
  | [v] => v
  | vs => .tup vs

theorem results_ok {ρ : Ren} {a : AAct} {act : Act} {s : AState} {w : World} (ha : ARel σ ρ a act) (hw : WRel σ N0 w0 ρ s w) {fn : Func} {vs : List AVal} (h : resA P a s fn.results.toList = .ok vs) :
    ∃ u, (results fn act.tmps).run P w = .ok u w ∧ VRel σ ρ (retA vs) u := by
  obtain ⟨us, h1, h2⟩ := resA_ok ha hw h
  have hl := h2.length
  have hrun : (results fn act.tmps).run P w = .ok (if h : us.toArray.size = 1 then us.toArray[0] else .tuple us.toArray) w := by
    rw [results_eq, Array.mapM_eq_mapM_toList]
    rw [Sem.run_bind, map_eq_pure_bind, Sem.run_bind]
    rw [h1]
    simp only [Result.andThen_ok, Sem.run_pure]
  refine ⟨_, hrun, ?_⟩
  cases vs with
  | nil =>
    simp only [VRels] at h2
    subst h2
    simp [retA, VRel, VRels]
  | cons v r =>
    obtain ⟨u, us', rfl, h3, h4⟩ := h2
    cases r with
    | nil =>
      simp only [VRels] at h4
      subst h4
      simpa [retA] using h3
    | cons v' r' =>
      obtain ⟨u', us'', rfl, h5, h6⟩ := h4
      exact ⟨(u :: u' :: us'').toArray, by simp, u, u' :: us'', rfl, h3, u', us'', rfl, h5, h6⟩

end
end Go.Am
