/-
  The abstract machine's operations against the model's: all of them.
-/
import Derived.Test.YtonbcchdaboigaaAm10
import Derived.Maps.RangeRun
namespace Go.Am
open Go Go.RowKit
set_option linter.unusedVariables false

section
variable {σ : Syms} {N0 : Nat} {w0 : World} {P : Program} {ev : Operand → R AVal} {e : Operand → Value} {ρ : Ren} {s s' : AState} {w : World} {nx : ANext}

theorem two {α : Type} {ts : Array α} {a b : α} (h : ts.toList = [a, b]) : ts = #[a, b] := by rw [← Array.toArray_toList (xs := ts), h]

theorem first_of {ts : Array TypeId} {t : TypeId} {r : List TypeId} (h : ts.toList = t :: r) : ts[0]? = some t := by
  rw [← Array.getElem?_toList, h]; rfl

theorem abuiltin_ok {b : Builtin} {ts : Array TypeId} {tp : TypeId} {consts : Array Bool} {args : List AVal} {us : Array Value} {r : AVal × AState} (hw : WRel σ N0 w0 ρ s w) (hf : Fresh ρ s.next r.2.next) (h : abuiltin P s b ts.toList args = .ok r) (hu : VRels σ ρ args us.toList) :
    NSem P σ N0 w0 (Go.builtin b ts tp consts us) ρ s w (.val r.1) r.2 := by
  unfold abuiltin at h
  split at h
  · -- append
    obtain ⟨u, us1, h1, h2, v, us2, h3, h4, h5⟩ := hu
    simp only [VRels] at h5
    subst h5; subst h3
    split at h
    · rename_i t t' ht
      have := two h1
      subst this
      rw [two ht]
      exact NSem.of_v (appendA_ok hw hf h h2 h4)
    · cases h
  · -- len
    obtain ⟨u, us1, h1, h2, h3⟩ := hu
    simp only [VRels] at h3
    subst h3
    split at h
    · rename_i t ht
      replace h := R.bind_ok' h
      obtain ⟨n, h4, h⟩ := h
      cases h
      have e1 : us = #[u] := by rw [← Array.toArray_toList (xs := us), h1]
      have e2 : ts = #[t] := by rw [← Array.toArray_toList (xs := ts), ht]
      subst e1; subst e2
      exact NSem.of_v (VSem.pure hw (lenA_ok hw h4 h2) ⟨rfl, rfl⟩)
    · cases h
  · -- min
    obtain ⟨u, us1, h1, h2, h3⟩ := hu
    replace h := R.bind_ok' h
    obtain ⟨v, h4, h⟩ := h
    cases h
    unfold foldA at h4
    replace h4 := R.bind_ok' h4
    obtain ⟨⟨k, a⟩, h5, h4⟩ := h4
    have := oneInt_ok h5 h2
    subst this
    obtain ⟨z, h6, h7⟩ := foldMin_ok (P := P) (w := w) h4 h3
    refine NSem.of_v (VSem.pure hw (u := z) ?_ h7)
    simp only [Builtin.min_, h1]
    exact h6
  · -- max
    obtain ⟨u, us1, h1, h2, h3⟩ := hu
    replace h := R.bind_ok' h
    obtain ⟨v, h4, h⟩ := h
    cases h
    unfold foldA at h4
    replace h4 := R.bind_ok' h4
    obtain ⟨⟨k, a⟩, h5, h4⟩ := h4
    have := oneInt_ok h5 h2
    subst this
    obtain ⟨z, h6, h7⟩ := foldMax_ok (P := P) (w := w) h4 h3
    refine NSem.of_v (VSem.pure hw (u := z) ?_ h7)
    simp only [Builtin.max_, h1]
    exact h6
  · -- delete
    obtain ⟨u, us1, h1, h2, v, us2, h3, h4, h5⟩ := hu
    simp only [VRels] at h5
    subst h5; subst h3
    split at h
    · rename_i t r' ht
      have := two h1
      subst this
      exact NSem.of_v (deleteA_ok hw h h2 h4 (first_of ht))
    · cases h
  · -- copy
    obtain ⟨u, us1, h1, h2, v, us2, h3, h4, h5⟩ := hu
    simp only [VRels] at h5
    subst h5; subst h3
    split at h
    · rename_i t r' ht
      have := two h1
      subst this
      exact NSem.of_v (copyA_ok hw h h2 h4 (first_of ht))
    · cases h
  · -- clear
    obtain ⟨u, us1, h1, h2, h3⟩ := hu
    simp only [VRels] at h3
    subst h3
    split at h
    · rename_i t r' ht
      have e1 : us = #[u] := by rw [← Array.toArray_toList (xs := us), h1]
      subst e1
      exact NSem.of_v (clearA_ok hw h h2 (first_of ht))
    · cases h
  · -- complex
    rename_i k a k' b
    obtain ⟨u, us1, h1, h2, v, us2, h3, h4, h5⟩ := hu
    simp only [VRels] at h5
    subst h5; subst h3
    have := two h1
    subst this
    cases hq : decide (k = k') with
    | false => rw [hq] at h; cases h
    | true =>
      rw [hq, cond_true] at h
      cases h
      have hk := of_decide_eq_true hq
      subst hk
      obtain ⟨rfl, _⟩ := h2
      obtain ⟨rfl, _⟩ := h4
      exact NSem.of_v (VSem.pure hw (u := .complex k a b) (by show (if k = k then pure _ else _ : Sem Value).run P w = _; rw [if_pos rfl]; rfl) ⟨rfl, rfl⟩)
  · obtain ⟨u, us1, h1, h2, h3⟩ := hu
    simp only [VRels] at h3
    subst h3
    cases h
    have e1 : us = #[u] := by rw [← Array.toArray_toList (xs := us), h1]
    subst e1
    obtain ⟨rfl, _⟩ := h2
    exact NSem.of_v (VSem.pure hw rfl ⟨rfl, rfl⟩)
  · obtain ⟨u, us1, h1, h2, h3⟩ := hu
    simp only [VRels] at h3
    subst h3
    cases h
    have e1 : us = #[u] := by rw [← Array.toArray_toList (xs := us), h1]
    subst e1
    obtain ⟨rfl, _⟩ := h2
    exact NSem.of_v (VSem.pure hw rfl ⟨rfl, rfl⟩)
  · cases h

/-- A call of a Go function. -/
def ESem (P : Program) (σ : Syms) (sem : Sem Next) (ρ : Ren) (s : AState) (w : World) (nx : ANext) (s' : AState) : Prop :=
  ∃ f args us, nx = .enter f args ∧ s' = s ∧ plainFn P f = true ∧ VRels σ ρ args us.toList ∧ sem.run P w = .ok (.enter f us) w

theorem plainFn_ok {f : FuncId} (h : plainFn P f = true) (args : Array Value) (w : World) : (callFunc f args).run P w = .ok (.enter f args) w := by
  unfold plainFn at h
  split at h
  · rename_i fn hfn
    simp only [Bool.and_eq_true, bne_iff_ne, ne_eq] at h
    unfold callFunc
    simp only [Sem.run_bind, run_program, Result.andThen_ok, hfn]
    have h1 : (fn.name == "runtime.NumGoroutine") = false := by simpa using h.2
    have h2 : fn.body.isNone = false := by
      cases hb : fn.body with
      | none => rw [hb] at h; simp at h
      | some c => rfl
    simp [h1, h2]
  · cases h

theorem call_op {c : Call} {tp : TypeId} (hw : WRel σ N0 w0 ρ s w) (hf : Fresh ρ s.next s'.next) (hx : ∀ x ∈ c.operands.toList, EvOk σ ρ ev e x) (h : opCall P ev c s = .ok (nx, s')) :
    NSem P σ N0 w0 (do let d ← resolve e c tp; invoke d.target d.args) ρ s w nx s' ∨ ESem P σ (do let d ← resolve e c tp; invoke d.target d.args) ρ s w nx s' := by
  unfold opCall at h
  replace h := R.bind_ok' h
  obtain ⟨args, h1, h⟩ := h
  have hargs : VRels σ ρ args (c.args.map e).toList := by
    rw [Array.toList_map]
    refine evs_ok (fun x hx' => hx x ?_) h1
    unfold Call.operands
    simp only [Array.toList_append, List.mem_append]
    exact .inr hx'
  split at h
  · rename_i b hb
    replace h := R.bind_ok' h
    obtain ⟨⟨v, s1⟩, h2, h⟩ := h
    obtain ⟨rfl, rfl⟩ := okv_ok h
    left
    have := abuiltin_ok (r := (v, s')) (tp := tp) (consts := c.args.map fun | .const _ => true | _ => false) hw hf h2 hargs
    obtain ⟨v', e1, u, w', ρ', e2, e3⟩ := this
    refine ⟨v', e1, u, w', ρ', ?_, e3⟩
    simp only [resolve, hb, Sem.run_bind, Sem.run_pure, Result.andThen_ok, invoke]
    exact e2
  · rename_i f hcf
    replace h := R.bind_ok' h
    obtain ⟨fv, h2, h⟩ := h
    split at h
    · rename_i fi caps
      replace h := R.bind_ok' h
      obtain ⟨_, h3, h⟩ := h
      cases h
      right
      have hfo : f ∈ c.operands.toList := by
        unfold Call.operands
        rw [hcf]
        simp
      obtain ⟨cs, hfe, hcs⟩ := hx f hfo _ h2
      refine ⟨fi, _, c.args.map e ++ cs, rfl, rfl, guardR_ok h3, ?_, ?_⟩
      · rw [Array.toList_append]; exact hargs.append hcs
      · simp only [resolve, hcf, hfe, Deferred.ofValue, Sem.run_bind, Sem.run_pure, Result.andThen_ok, invoke]
        simp only [Array.empty_append]
        exact plainFn_ok (guardR_ok h3) _ w
    · cases h
  · cases h

theorem ERels.left (seen : List Nat) : ∀ {es : List AEntry} {ms : List MapEntry}, ERels σ ρ es ms → ERels σ ρ (leftA es seen) (ms.filter fun e => !seen.toArray.contains e.born)
  | [], ms, h => by simp only [ERels] at h; subst h; rfl
  | e :: r, ms, ⟨m, ns, h, h2, h3, h4, h5⟩ => by
    subst h
    have ih := ERels.left seen h5
    unfold leftA at ih ⊢
    rw [List.filter_cons, List.filter_cons]
    have hq : (!seen.toArray.contains m.born) = (!seen.contains e.born) := by rw [h3]; simp
    rw [hq]
    cases hb : (!seen.contains e.born) with
    | true => simp only [if_true]; exact ⟨m, _, rfl, h2, h3, h4, ih⟩
    | false => simp only [Bool.false_eq_true, if_false]; exact ih

theorem ERels.mem : ∀ {es : List AEntry} {ms : List MapEntry}, ERels σ ρ es ms → ∀ m ∈ ms, ∃ e ∈ es, m.key = e.key ∧ m.born = e.born ∧ VRel σ ρ e.val m.val
  | [], ms, h, m, hm => by simp only [ERels] at h; subst h; cases hm
  | e :: r, ms, ⟨m', ns, h, h2, h3, h4, h5⟩, m, hm => by
    subst h
    rcases List.mem_cons.1 hm with rfl | hm
    · exact ⟨e, List.mem_cons_self .., h2, h3, h4⟩
    · obtain ⟨e', he, h⟩ := ERels.mem h5 m hm
      exact ⟨e', List.mem_cons_of_mem _ he, h⟩

theorem run_next_nx {it : Operand} {tp : TypeId} {u : Value} {w' : World} {x : Value} (hx : e it = x) (h : (Instr.next x false tp).run P w = .ok u w') : (do pure (Next.value (← Instr.next (e it) false tp)) : Sem Next).run P w = .ok (.value u) w' := by
  rw [hx, Sem.run_bind, h]
  rfl

theorem next_nil {it : Operand} {tp : TypeId} (hw : WRel σ N0 w0 ρ s w) (hx : EvOk σ ρ ev e it) (h : opNext ev it s = .ok (nx, s')) (hnc : ∀ n k, nx ≠ .choose n k) :
    NSem P σ N0 w0 (do pure (.value (← Instr.next (e it) false tp))) ρ s w nx s' := by
  unfold opNext at h
  replace h := R.bind_ok' h
  obtain ⟨xa, h1, h⟩ := h
  replace h := R.bind_ok' h
  obtain ⟨⟨r, o⟩, h2, h⟩ := h
  replace h := R.bind_ok' h
  obtain ⟨_, h3, h⟩ := h
  replace h := R.bind_ok' h
  obtain ⟨ob, h4, h⟩ := h
  have h3 := Nat.eq_of_beq_eq_true (guardR_ok h3)
  replace h3 : o = 0 := h3
  obtain ⟨L, hL, hp⟩ := asPtr_ok h2 (hx _ h1)
  split at h
  · obtain ⟨rfl, rfl⟩ := okv_ok h
    obtain ⟨hi0, m', hi1, hi2⟩ := hw.heap _ _ (get_ok h4) L hL
    cases m' with
    | some _ => exact hi2.elim
    | none =>
      refine NSem.of_v (VSem.pure hw (u := .tuple #[.bool false]) ?_ ⟨#[.bool false], rfl, .bool false, [], rfl, ⟨rfl, rfl⟩, rfl⟩)
      rw [hp, hi0, h3]
      simp only [Instr.next, Sem.run_bind, Nat.add_zero, run_getIter hi1, Result.andThen_ok]
      rfl
  · rename_i m since seen last
    replace h := R.bind_ok' h
    obtain ⟨mo, h5, h⟩ := h
    split at h
    · rename_i es c
      replace h := R.bind_ok' h
      obtain ⟨_, h6, h⟩ := h
      have h6 := guardR_ok h6
      simp only [Bool.and_eq_true] at h6
      have hsl := Nat.le_of_ble_eq_true h6.1
      obtain ⟨hi0, m', hi1, hi2⟩ := hw.heap _ _ (get_ok h4) L hL
      have hpe : e it = .pointer (some ⟨L.blk, 0, none⟩) := by rw [hp, hi0]; subst h3; rfl
      cases m' with
      | none => exact hi2.elim
      | some bm =>
        obtain ⟨M1, hM, rfl⟩ := hi2
        obtain ⟨ms, hm1, hm2⟩ := hw.heap _ _ (get_ok h5) M1 hM
        have hleft := ERels.left (σ := σ) (ρ := ρ) seen hm2
        have hlen : (leftOf ms seen.toArray).toList = ms.toList.filter fun e => !seen.toArray.contains e.born := by unfold leftOf; rw [Array.toList_filter]
        have hold' : ∀ x ∈ ms.toList, x.born < since := fun x hx => by
          obtain ⟨a, ha, _, k2, _⟩ := hm2.mem x hx
          rw [k2]
          exact Nat.le_of_ble_eq_true (List.all_eq_true.1 h6.2 a ha)
        have hrun := run_next_at (P := P) w tp L.blk M1.blk since last seen.toArray ms c hi1 hm1 hold' hsl
        split at h
        · rename_i hl
          obtain ⟨rfl, rfl⟩ := okv_ok h
          rcases hrun with ⟨_, hrun⟩ | ⟨a, ha, _⟩
          · exact NSem.of_v (VSem.pure hw (u := .tuple #[.bool false]) (by rw [hpe]; exact hrun) ⟨#[.bool false], rfl, .bool false, [], rfl, ⟨rfl, rfl⟩, rfl⟩)
          · rw [hlen] at ha
            obtain ⟨a', ha', _⟩ := hleft.mem a ha
            rw [hl] at ha'
            cases ha'
        · rename_i a hl
          replace h := R.bind_ok' h
          obtain ⟨_, h7, h⟩ := h
          replace h := R.bind_ok' h
          obtain ⟨s1, h8, h⟩ := h
          obtain ⟨rfl, rfl⟩ := okv_ok h
          have hk1 := guardR_ok h7
          rcases hrun with ⟨h0, _⟩ | ⟨a', ha', w1, hw1, hrun⟩
          · exfalso
            have k1 := hleft.length
            rw [← hlen, Array.length_toList, h0, hl] at k1
            simp at k1
          · rw [hlen] at ha'
            obtain ⟨a2, ha2, k1, k2, k3⟩ := hleft.mem a' ha'
            rw [hl] at ha2
            obtain rfl := List.mem_singleton.1 ha2
            have hro : s.ro ≤ r := (write_ok' h8).1
            have hN := (hw.rng r L hL).2.1 hro
            have hlt := (hw.rng r L hL).1
            have e1 : w1.heap = w.heap := by rcases hw1 with rfl | rfl <;> rfl
            have hbl : Below N0 w (ChangeMaps.setBlock w1 L.blk (.mapIter (some M1.blk) since (seen.toArray.push a'.born) c)) := by
              have hb1 : Below N0 w w1 := by rcases hw1 with rfl | rfl; exact Below.refl _ _; exact (Below.refl _ _).drew
              refine ⟨hb1.os, hb1.tape, hb1.output, by simp [ChangeMaps.setBlock, e1], fun k hk => ?_⟩
              simp only [ChangeMaps.setBlock, e1]
              rw [Array.getElem?_setIfInBounds, if_neg (by omega)]
            have hP := Post.write hw h8 (by rw [get_ok h4]; simp) hL hbl (by simp [ChangeMaps.setBlock, e1]) (fun k hk => by
              simp only [ChangeMaps.setBlock, e1]
              rw [Array.getElem?_setIfInBounds, if_neg (fun h => hk h.symm)]) (show ORel σ ρ L true _ (.iter (some m) since (seen ++ [a2.born]) c) from
              ⟨hi0, some M1.blk, by simp [ChangeMaps.setBlock, e1, hlt, k2], M1, hM, rfl⟩)
            exact NSem.of_v ⟨.tuple #[.bool true, a'.key, a'.val], _, ρ, by rw [hpe]; exact hrun, ⟨#[.bool true, a'.key, a'.val], rfl, .bool true, [a'.key, a'.val], rfl, ⟨rfl, rfl⟩, a'.key, [a'.val], rfl, ⟨k1, hk1⟩, a'.val, [], rfl, k3, rfl⟩, hP⟩
        · cases h
          exact absurd rfl (hnc _ _)
    · cases h
  · cases h

theorem aop_sound {o : Oper} (hw : WRel σ N0 w0 ρ s w) (hf : Fresh ρ s.next s'.next) (hx : ∀ x ∈ o.op.operands.toList, EvOk σ ρ ev e x) (h : aop P ev o s = .ok (nx, s')) (hnc : ∀ n k, nx ≠ .choose n k) :
    NSem P σ N0 w0 (execOp e o) ρ s w nx s' ∨ ESem P σ (execOp e o) ρ s w nx s' := by
  unfold aop at h
  unfold execOp
  generalize o.op = op at *
  cases op with
  | move x => exact .inl (move_ok hw (hx _ (by simp [Op.operands])) h)
  | assign x => exact .inl (move_ok hw (hx _ (by simp [Op.operands])) h)
  | pick c a b => exact .inl (pick_ok hw (hx _ (by simp [Op.operands])) (hx _ (by simp [Op.operands])) (hx _ (by simp [Op.operands])) h)
  | alloc t => exact .inl (alloc_op hw hf h)
  | box t x => exact .inl (box_op hw hf (hx _ (by simp [Op.operands])) h)
  | build t ps => exact .inl (build_op hw (fun x hm => hx x (by simpa [Op.operands] using hm)) h)
  | buildSlice t n ps => exact .inl (buildSlice_op hw hf (fun x hm => hx x (by simpa [Op.operands] using hm)) h)
  | insert t m k v => exact .inl (mapUpdate_op hw (hx _ (by simp [Op.operands])) (hx _ (by simp [Op.operands])) (hx _ (by simp [Op.operands])) h)
  | load t x => exact .inl (load_ok hw (hx _ (by simp [Op.operands])) h)
  | store t x v => exact .inl (store_ok hw (hx _ (by simp [Op.operands])) (hx _ (by simp [Op.operands])) h)
  | nilCheck x =>
    obtain ⟨v, rfl, rfl, hv, n1, n2, n3, n4⟩ := nilCheck_ok (P := P) hw (hx x (by simp [Op.operands])) h
    refine .inl ⟨v, rfl, e x, w, ρ, .inl ?_, hv, Post.refl hw⟩
    simp only []
    generalize e x = ex at *
    cases ex with
    | pointer a => cases a with
      | none => exact absurd rfl n1
      | some a => rfl
    | nilIface => exact absurd rfl n2
    | nilFunc => exact absurd rfl n3
    | func fn a b => cases fn with
      | method n => exact absurd rfl (n4 n a b)
      | _ => rfl
    | _ => rfl
  | binOp op t x y yt => exact .inl (binOp_ok hw (hx _ (by simp [Op.operands])) (hx _ (by simp [Op.operands])) h)
  | unOp op t x => exact .inl (unOp_ok hw (hx _ (by simp [Op.operands])) h)
  | convert a b x => exact .inl (convert_ok hw (hx _ (by simp [Op.operands])) h)
  | makeFunc fn first caps => cases fn with
    | func f => exact .inl (makeFunc_ok hw (fun x hm => hx x (by simp only [Op.operands, Array.toList_append, List.mem_append]; exact .inr hm)) h)
    | _ => cases h
  | makeMap t r => cases r with
    | none => exact .inl (makeMap_op hw hf h)
    | some _ => cases h
  | makeSlice t l c => exact .inl (makeSlice_op hw hf (hx _ (by simp [Op.operands])) (hx _ (by simp [Op.operands])) h)
  | slice t x lo hi mx => exact .inl (slice_op hw (hx _ (by simp [Op.operands])) (fun y hy => hx y (by subst hy; simp [Op.operands])) (fun y hy => hx y (by subst hy; simp [Op.operands])) (fun y hy => hx y (by subst hy; simp [Op.operands])) h)
  | fieldAddr t x f => exact .inl (fieldAddr_ok hw (hx _ (by simp [Op.operands])) h)
  | field t x f => exact .inl (field_ok hw (hx _ (by simp [Op.operands])) h)
  | indexAddr t x i => exact .inl (indexAddr_ok hw (hx _ (by simp [Op.operands])) (hx _ (by simp [Op.operands])) h)
  | index t x i => exact .inl (index_ok hw (hx _ (by simp [Op.operands])) (hx _ (by simp [Op.operands])) h)
  | lookup t x k ok => exact .inl (lookup_op hw (hx _ (by simp [Op.operands])) (hx _ (by simp [Op.operands])) h)
  | mapUpdate t m k v => exact .inl (mapUpdate_op hw (hx _ (by simp [Op.operands])) (hx _ (by simp [Op.operands])) (hx _ (by simp [Op.operands])) h)
  | mapEntry t m k => exact .inl (mapEntry_op hw (hx _ (by simp [Op.operands])) (hx _ (by simp [Op.operands])) h)
  | entryStore t m st v => exact .inl (entryStore_op hw (hx _ (by simp [Op.operands])) (hx _ (by simp [Op.operands])) (hx _ (by simp [Op.operands])) h)
  | range t x => exact .inl (range_op hw hf (hx _ (by simp [Op.operands])) h)
  | next it b => cases b with
    | false => exact .inl (next_nil hw (hx _ (by simp [Op.operands])) h hnc)
    | true => cases h
  | entry it => exact .inl (entry_op hw (hx _ (by simp [Op.operands])) h)
  | extract t i => exact .inl (extract_ok hw (hx _ (by simp [Op.operands])) h)
  | call c => exact call_op hw hf (fun x hm => hx x (by simpa [Op.operands] using hm)) h
  | _ => cases h

end
end Go.Am
