/-
  What the two functions of the phases' table answer, and that the machine may take that for them.
-/
import Derived.Test.YthhfokbfdeghpaaAm23
import Derived.Test.YthhfokbfdeghpaaProg
import Derived.WalkKit
import Derived.Handy
import Derived.KernelRfl
namespace Go.Proofs.Ythhfokbfdeghpaa
open Go Go.RowKit Go.Am
set_option linter.unusedVariables false

theorem ph_pairs : Pairs Try.prog 95 205 3 where
  arr := Try.underlying95
  int := Try.underlying3
  map := Try.underlying205
  size := by kernel_rfl
  zero := fun w => by
    have h : Try.t3.zero = some (.int .i64 0) := by kernel_rfl
    simp [zeroValue, h]
  built := fun a b => by kernel_rfl

noncomputable def stepsOps : Array Oper := match Try.f140.body with
  | some (.seq _ (.seq (.region _ ops _) _)) => ops
  | _ => #[]

theorem steps_shape : ∀ j o, stepsOps[j]? = some o → Shape 95 205 j o := by
  intro j o ho
  have hj : j < 25 := (Array.getElem?_eq_some_iff.1 ho).1
  rcases j with _ | _ | _ | _ | _ | _ | _ | _ | _ | _ | _ | _ | _ | _ | _ | _ | _ | _ | _ | _ | _ | _ | _ | _ | _ | j
  · cases ho; exact .make _ rfl rfl rfl
  · cases ho; exact .build _ 0 1 1 2 rfl rfl rfl rfl
  · cases ho; exact .insert _ 0 1 1 2 rfl rfl rfl rfl rfl rfl
  · cases ho; exact .build _ 1 1 3 2 rfl rfl rfl rfl
  · cases ho; exact .insert _ 1 1 3 2 rfl rfl rfl rfl rfl rfl
  · cases ho; exact .build _ 2 2 2 3 rfl rfl rfl rfl
  · cases ho; exact .insert _ 2 2 2 3 rfl rfl rfl rfl rfl rfl
  · cases ho; exact .build _ 3 2 4 1 rfl rfl rfl rfl
  · cases ho; exact .insert _ 3 2 4 1 rfl rfl rfl rfl rfl rfl
  · cases ho; exact .build _ 4 2 7 1 rfl rfl rfl rfl
  · cases ho; exact .insert _ 4 2 7 1 rfl rfl rfl rfl rfl rfl
  · cases ho; exact .build _ 5 2 6 5 rfl rfl rfl rfl
  · cases ho; exact .insert _ 5 2 6 5 rfl rfl rfl rfl rfl rfl
  · cases ho; exact .build _ 6 2 8 4 rfl rfl rfl rfl
  · cases ho; exact .insert _ 6 2 8 4 rfl rfl rfl rfl rfl rfl
  · cases ho; exact .build _ 7 3 5 2 rfl rfl rfl rfl
  · cases ho; exact .insert _ 7 3 5 2 rfl rfl rfl rfl rfl rfl
  · cases ho; exact .build _ 8 3 8 3 rfl rfl rfl rfl
  · cases ho; exact .insert _ 8 3 8 3 rfl rfl rfl rfl rfl rfl
  · cases ho; exact .build _ 9 4 1 2 rfl rfl rfl rfl
  · cases ho; exact .insert _ 9 4 1 2 rfl rfl rfl rfl rfl rfl
  · cases ho; exact .build _ 10 5 1 2 rfl rfl rfl rfl
  · cases ho; exact .insert _ 10 5 1 2 rfl rfl rfl rfl rfl rfl
  · cases ho; exact .move _ rfl rfl rfl rfl
  · cases ho; exact .assign _ rfl rfl rfl rfl
  · omega

theorem steps_calls (w : World) : Calls Try.prog 140 #[] w fun e w' => e = .returned (.map (some w.heap.size)) ∧
    (∃ (E : List Ent) (c : Nat), w'.heap = w.heap.push (.map (E.map Ent.to).toArray c) ∧ ∀ a b : Int, Am.look a b E = Am.tabLook a b) ∧ w'.os = w.os ∧ w'.tape = w.tape ∧ w'.output = w.output := by
  have hb : Try.f140.body = some (.seq (.region 0 (match Try.f140.body with | some (.seq (.region _ r _) _) => r | _ => #[]) false) (.seq (.region 1 stepsOps true) .ret)) := rfl
  refine calls_of_wp Try.func140 hb ?_
  refine wp_seq (wp_region_list ?_)
  refine Or.inl ?_
  show Oper.upon _ _ _ _ _ (Result.ok (Next.value (.map none)) w)
  rw [Oper.upon_value]
  refine wp_seq ?_
  refine phase_region (by kernel_rfl) ph_pairs steps_shape rfl rfl rfl rfl fun act' w' hd h0 hE hw => ?_
  refine wp_ret (bodyPost_ret (results_tmp rfl _ _ _) hd ?_)
  refine ⟨?_, hE, hw⟩
  simp [h0]

theorem wpList_value {P : Program} {ops : Array Oper} {Q : Exit → Act → World → Prop} {o : Oper} {rest : List Oper} {act : Act} {w w' : World} {u : Value} (hg : o.guard = none) (h : (execOp act.eval o).run P w = .ok (.value u) w') (hK : wpList P ops Q rest (act.put o.dst u) w') :
    wpList P ops Q (o :: rest) act w := by
  show (if Region.wanted o (yielded ops act.tmps) then _ else _)
  simp only [Region.wanted, hg, if_true]
  left
  unfold Oper.wp
  rw [h, Oper.upon_value]
  exact hK

noncomputable def nextOps (i : Nat) : Array Oper := match Try.f117.body with
  | some (.seq (.region _ r0 _) (.seq (.region _ r1 _) (.seq (.region _ r2 _) _))) => match i with
    | 0 => r0
    | 1 => r1
    | _ => r2
  | _ => #[]

set_option maxHeartbeats 4000000 in
theorem next_calls (a b : Int) (w : World) : Calls Try.prog 117 #[.int .i64 a, .int .i64 b] w fun e w' => e = .returned (.tuple #[.int .i64 ((Am.tabLook a b).getD 0), .bool (Am.tabLook a b).isSome]) ∧ w.heap.size ≤ w'.heap.size ∧
    (∀ k, k < w.heap.size → w'.heap[k]? = w.heap[k]?) ∧ w'.os = w.os ∧ w'.tape = w.tape ∧ w'.output = w.output := by
  have hb : Try.f117.body = some (.seq (.region 0 (nextOps 0) false) (.seq (.region 1 (nextOps 1) false) (.seq (.region 2 (nextOps 2) false) .ret))) := rfl
  refine calls_of_wp Try.func117 hb ?_
  refine wp_seq (wp_region_list ?_)
  refine wpList_value (u := .int .i64 0) (w' := w) rfl rfl ?_
  refine wpList_value (u := .bool false) (w' := w) rfl rfl ?_
  refine wp_seq (wp_region_list ?_)
  refine Or.inl ?_
  unfold Oper.wp
  rw [show (execOp _ _).run Try.prog w = Result.ok (Next.enter 140 #[]) w from ?_]
  · rw [Oper.upon_enter]
    refine (steps_calls w).mono fun e w' ⟨he, ⟨E, c, hh, hl⟩, h1, h2, h3⟩ => ?_
    subst he
    have hget : w'.heap[w.heap.size]? = some (.map (E.map Ent.to).toArray c) := by rw [hh]; simp
    have hbld : ∀ (ev : Operand → Value) (x y : Operand), ev x = .int .i64 a → ev y = .int .i64 b →
        Sem.run Try.prog (do pure (Next.value (← Instr.build 95 (Array.map (fun (p : Nat × Operand) => (p.1, ev p.2)) #[(0, x), (1, y)])))) w' = .ok (.value (pairV a b)) w' := fun ev x y hx hy => by
      have e : Array.map (fun (p : Nat × Operand) => (p.1, ev p.2)) #[(0, x), (1, y)] = #[(0, .int .i64 a), (1, .int .i64 b)] := by simp [hx, hy]
      rw [e, Sem.run_bind, run_build w' 95 #[(0, .int .i64 a), (1, .int .i64 b)] _ (ph_pairs.built a b)]
      rfl
    have hlk : ∀ (ev : Operand → Value) (x y : Operand), ev x = .map (some w.heap.size) → ev y = pairV a b →
        Sem.run Try.prog (do pure (Next.value (← Instr.lookup 205 (ev x) (ev y) true))) w' = .ok (.value (.tuple #[.int .i64 ((Am.tabLook a b).getD 0), .bool (Am.tabLook a b).isSome])) w' := fun ev x y hx hy => by
      rw [hx, hy, Sem.run_bind, ph_pairs.lookup a b hget, hl a b]
      rfl
    refine wpList_value (u := .int .i64 a) (w' := w') rfl (by kernel_rfl) ?_
    refine wpList_value (u := .int .i64 b) (w' := w') rfl (by kernel_rfl) ?_
    refine wpList_value (u := pairV a b) (w' := w') rfl ?_ ?_
    · exact hbld _ (.tmp 10) (.tmp 11) (by kernel_rfl) (by kernel_rfl)
    refine wpList_value (u := .tuple #[.int .i64 ((Am.tabLook a b).getD 0), .bool (Am.tabLook a b).isSome]) (w' := w') rfl ?_ ?_
    · exact hlk _ (.tmp 9) (.tmp 12) (by kernel_rfl) (by kernel_rfl)
    refine wpList_value (u := .tuple #[.int .i64 ((Am.tabLook a b).getD 0), .bool (Am.tabLook a b).isSome]) (w' := w') rfl (by kernel_rfl) ?_
    refine wpList_value (u := .int .i64 ((Am.tabLook a b).getD 0)) (w' := w') rfl (by kernel_rfl) ?_
    refine wpList_value (u := .bool (Am.tabLook a b).isSome) (w' := w') rfl (by kernel_rfl) ?_
    refine wpList_value (u := .int .i64 ((Am.tabLook a b).getD 0)) (w' := w') rfl (by kernel_rfl) ?_
    refine wpList_value (u := .bool (Am.tabLook a b).isSome) (w' := w') rfl (by kernel_rfl) ?_
    refine wp_seq (wp_region_list ?_)
    refine wpList_value (u := .int .i64 ((Am.tabLook a b).getD 0)) (w' := w') rfl (by kernel_rfl) ?_
    refine wpList_value (u := .bool (Am.tabLook a b).isSome) (w' := w') rfl (by kernel_rfl) ?_
    refine wpList_value (u := .int .i64 ((Am.tabLook a b).getD 0)) (w' := w') rfl (by kernel_rfl) ?_
    refine wpList_value (u := .bool (Am.tabLook a b).isSome) (w' := w') rfl (by kernel_rfl) ?_
    refine wp_ret (bodyPost_ret (results_tmp2 rfl _ _ _) rfl ?_)
    refine ⟨by kernel_rfl, ?_, ?_, h1, h2, h3⟩
    · rw [hh]; simp
    · intro k hk
      rw [hh, Array.getElem?_push, if_neg (by omega)]
  · have hp := plainFn_ok (P := Try.prog) (f := 140) (by kernel_rfl) #[] w
    have e : ∀ (ev : Operand → Value), ev (.func 140) = .func (.func 140) #[] #[] → Sem.run Try.prog (do let d ← resolve ev ⟨.value (.func 140), #[], #[]⟩ 205; invoke d.target d.args) w = .ok (.enter 140 #[]) w := fun ev he => by
      simp only [resolve, he, Deferred.ofValue, Sem.run_bind, Sem.run_pure, Result.andThen_ok, invoke, Array.map_empty, Array.empty_append]
      exact hp
    exact e _ rfl

noncomputable def phasePrims : Prims := fun f => bif Nat.beq f 117 then some phaseNext else none

theorem phasePrims_ok {σ : Syms} {N0 : Nat} {w0 : World} : ∀ f p, phasePrims f = some p → PrimOk Try.prog σ N0 w0 f p := by
  intro f p h
  unfold phasePrims at h
  cases hq : Nat.beq f 117 with
  | false => rw [hq] at h; cases h
  | true =>
    rw [hq] at h
    have := Nat.eq_of_beq_eq_true hq
    subst this
    cases h
    exact phaseNext_ok next_calls

end Go.Proofs.Ythhfokbfdeghpaa
