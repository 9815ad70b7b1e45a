/-
  The abstract machine's operations against the model's: comparisons, addresses, parts.
-/
import Derived.Test.YtonbcchdaboigaaAm5
import Derived.Laws.StructEq
namespace Go.Am
open Go Go.RowKit
set_option linter.unusedVariables false

section
variable {σ : Syms} {N0 : Nat} {w0 : World} {P : Program} {ev : Operand → R AVal} {e : Operand → Value} {ρ : Ren} {s s' : AState} {w : World} {nx : ANext}

theorem sameInts_ok : ∀ {l l' : List AVal} {us us' : List Value}, sameInts l l' = true → VRels σ ρ l us → VRels σ ρ l' us' → us = us' ∧ ∀ u ∈ us, ∃ k n, u = .int k n
  | [], [], us, us', _, h, h' => by
    simp only [VRels] at h h'
    subst h; subst h'
    exact ⟨rfl, by simp⟩
  | .sym i :: r, .sym j :: r', us, us', hs, ⟨u, ut, h1, h2, h3⟩, ⟨v, vt, k1, k2, k3⟩ => by
    simp only [sameInts, Bool.and_eq_true] at hs
    obtain ⟨e1, e2⟩ := sameInts_ok hs.2 h3 k3
    simp only [VRel] at h2 k2
    have := Nat.eq_of_beq_eq_true hs.1
    subst this; subst h1; subst k1; subst h2; subst k2; subst e1
    exact ⟨rfl, fun x hx => by rcases List.mem_cons.1 hx with rfl | hx; exact ⟨_, _, rfl⟩; exact e2 x hx⟩
  | .lit (.int k n) :: r, .lit (.int k' n') :: r', us, us', hs, ⟨u, ut, h1, h2, h3⟩, ⟨v, vt, k1, k2, k3⟩ => by
    simp only [sameInts, Bool.and_eq_true, decide_eq_true_eq] at hs
    obtain ⟨e1, e2⟩ := sameInts_ok hs.2 h3 k3
    simp only [VRel] at h2 k2
    obtain ⟨⟨rfl, rfl⟩, _⟩ := hs
    obtain ⟨rfl, _⟩ := h2; obtain ⟨rfl, _⟩ := k2
    subst h1; subst k1; subst e1
    exact ⟨rfl, fun x hx => by rcases List.mem_cons.1 hx with rfl | hx; exact ⟨_, _, rfl⟩; exact e2 x hx⟩

theorem forIn_stay {β : Type} (b : β) (f : Nat → β → Sem (ForInStep β)) (w : World) : ∀ (l : List Nat), (∀ i ∈ l, (f i b).run P w = .ok (.yield b) w) → (forIn l b f).run P w = .ok b w
  | [], _ => by simp
  | i :: l, h => by
    rw [List.forIn_cons, Sem.run_bind, h i (by simp), Result.andThen_ok]
    exact forIn_stay b f w l fun j hj => h j (by simp [hj])

theorem equalIn_ints (d : Nat) {t el : TypeId} {n : Nat} {k0 : IntKind} (us : Array Value) (ht : P.underlying t = some (.array n el)) (he : P.underlying el = some (.int k0)) (hsz : (P.info? el).map (·.size) = some 1)
    (hn : us.size = n) (hi : ∀ u ∈ us.toList, ∃ k m, u = .int k m) (w : World) : (Op.equalIn (d + 2) t (.agg us) (.agg us)).run P w = .ok true w := by
  unfold Op.equalIn
  obtain ⟨i0, hi0, hi1⟩ := Option.map_eq_some_iff.1 hsz
  have hsize : (sizeOf el).run P w = .ok 1 w := by simp [sizeOf, typeInfo, hi0, hi1]
  have hpart : ∀ i (h : i < us.size), (part el us (i * 1)).run P w = .ok us[i] w := fun i h => by
    have hagg : (isAgg el).run P w = .ok false w := by
      unfold isAgg; rw [Sem.run_bind, run_underlying he]; rfl
    simp [part, hagg, h]
  rw [Sem.run_bind, run_underlying ht, Result.andThen_ok]
  simp only [Sem.run_bind, hsize, Result.andThen_ok, Std.Legacy.Range.forIn_eq_forIn_range']
  rw [forIn_stay (P := P)]
  · simp
  · intro i hmem
    have hlt : i < us.size := by
      simp [List.mem_range'] at hmem
      omega
    obtain ⟨k, m, hu⟩ := hi us[i] (by simp)
    simp only [Sem.run_bind, hpart i hlt, Result.andThen_ok, hu]
    rw [run_equalIn_int w d el k k0 m m he]
    simp

theorem aeqSame_ok {t : TypeId} {x y : AVal} {c : Bool} {u v : Value} (h : aeqSame P t x y = .ok c) (hu : VRel σ ρ x u) (hv : VRel σ ρ y v) (ox oy : Operand) (w : World) :
    (do eqGuard .eql t ox oy u v; binOp .eql t u v : Sem Value).run P w = .ok (.bool c) w ∧ (do eqGuard .neq t ox oy u v; binOp .neq t u v : Sem Value).run P w = .ok (.bool (!c)) w := by
  unfold aeqSame at h
  split at h
  · rename_i l l'
    cases hq : (sameInts l l' && intArray P t l.length) with
    | false => rw [hq] at h; cases h
    | true =>
      rw [hq, cond_true] at h
      cases h
      simp only [Bool.and_eq_true] at hq
      obtain ⟨us, rfl, hus⟩ := hu
      obtain ⟨vs, rfl, hvs⟩ := hv
      obtain ⟨e1, e2⟩ := sameInts_ok hq.1 hus hvs
      have : us = vs := by rw [← Array.toList_inj]; exact e1
      subst this
      have hi := hq.2
      unfold intArray at hi
      split at hi
      case h_2 => cases hi
      rename_i m el hm
      simp only [Bool.and_eq_true, decide_eq_true_eq] at hi
      obtain ⟨⟨⟨h1, h2⟩, h3⟩, h4⟩ := hi
      have h1 := Nat.eq_of_beq_eq_true h1
      split at h2
      case h_2 => cases h2
      rename_i k0 hk0
      have hlen : us.size = m := by have := hus.length; simp at this; omega
      have heq := equalIn_ints (P := P) 9998 us hm hk0 h3 hlen e2 w
      have hg : P.eqGuardType P.depth t = false := by simpa using h4
      constructor
      · rw [Sem.run_bind, run_eqGuard_agg w .eql t ox oy us us hg, Result.andThen_ok, run_eql_struct, heq]; rfl
      · rw [Sem.run_bind, run_eqGuard_agg w .neq t ox oy us us hg, Result.andThen_ok, run_neq_struct, heq]; rfl
  · exact aeqNil_ok h hu hv ox oy w

theorem kindNo_ok {k j : IntKind} (h : Nat.beq (kindNo k) (kindNo j) = true) : k = j := by
  cases k <;> cases j <;> first | rfl | cases h

theorem intEq_ok (a b : Int) : intEq a b = (a == b) := by
  have hb : ∀ m n : Nat, Nat.beq m n = decide (m = n) := fun m n => by
    cases hq : Nat.beq m n with
    | true => exact (decide_eq_true (Nat.eq_of_beq_eq_true hq)).symm
    | false => exact (decide_eq_false fun e => by subst e; rw [Nat.beq_refl] at hq; cases hq).symm
  rw [Bool.eq_iff_iff, beq_iff_eq]
  cases a <;> cases b <;> simp only [intEq, hb, decide_eq_true_eq, Bool.false_eq_true, false_iff]
  · exact ⟨fun e => by rw [e], fun e => Int.ofNat.inj e⟩
  · exact fun e => by cases e
  · exact fun e => by cases e
  · exact ⟨fun e => by rw [e], fun e => Int.negSucc.inj e⟩

theorem intLt_ok (a b : Int) : intLt a b = decide (a < b) := by
  have hb : ∀ m n : Nat, (Nat.blt m n = true) ↔ m < n := fun m n => ⟨fun h => Nat.le_of_ble_eq_true h, fun h => Nat.ble_eq_true_of_le h⟩
  rw [Bool.eq_iff_iff, decide_eq_true_eq]
  cases a <;> cases b <;> simp only [intLt, hb, Bool.false_eq_true, false_iff, true_iff, Int.ofNat_eq_natCast] <;> omega

theorem wrap_nat {k : IntKind} {n : Nat} (h : n ≤ kindTop k) : k.wrap n = n := by
  cases k <;> simp [kindTop, IntKind.wrap, IntKind.bits, IntKind.signed] at h ⊢ <;> omega

theorem natIn_ok {k : IntKind} {n : Nat} {v : Value} (h : natIn k n = some v) : v = .int k (k.wrap n) := by
  unfold natIn at h
  cases hq : Nat.ble n (kindTop k) with
  | false => rw [hq] at h; cases h
  | true =>
    rw [hq, cond_true, forceN_eq] at h
    cases h
    rw [wrap_nat (Nat.le_of_ble_eq_true hq)]
    rfl

theorem fastBin_ok {op : BinOp} {k : IntKind} {a b : Int} {v : Value} (h : fastBin op k a b = some v) (t : TypeId) (ox oy : Operand) (w : World) :
    (do eqGuard op t ox oy (.int k a) (.int k b); binOp op t (.int k a) (.int k b) : Sem Value).run P w = .ok v w ∧ vOne v = true := by
  have hg : (eqGuard op t ox oy (.int k a) (.int k b)).run P w = .ok () w := by cases op <;> rfl
  rw [Sem.run_bind, hg, Result.andThen_ok]
  unfold fastBin at h
  split at h
  · cases h; rw [Go.binOp_eql, intEq_ok]; exact ⟨rfl, rfl⟩
  · cases h; rw [Go.binOp_neq, intEq_ok]; exact ⟨rfl, rfl⟩
  · cases h; rw [binOp_lss, intLt_ok]; exact ⟨rfl, rfl⟩
  · cases h; rw [binOp_leq, intLt_ok]; refine ⟨?_, rfl⟩; by_cases h : a ≤ b <;> simp [h] <;> omega
  · cases h; rw [binOp_gtr, intLt_ok]; exact ⟨rfl, rfl⟩
  · cases h; rw [binOp_geq, intLt_ok]; refine ⟨?_, rfl⟩; by_cases h : a ≥ b <;> simp [h] <;> omega
  · split at h
    · rename_i x y
      rw [binOp_add, natIn_ok h]
      exact ⟨rfl, rfl⟩
    · cases h
  · split at h
    · rename_i x y
      cases hq : Nat.ble y x with
      | false => rw [hq] at h; cases h
      | true =>
        rw [hq, cond_true] at h
        have hle := Nat.le_of_ble_eq_true hq
        rw [binOp_sub, natIn_ok h]
        refine ⟨?_, rfl⟩
        show Sem.run P (pure (Value.int k (k.wrap (Int.ofNat x - Int.ofNat y)))) w = _
        have : Int.ofNat x - Int.ofNat y = ((Nat.sub x y : Nat) : Int) := by
          show (x : Int) - (y : Int) = ((x - y : Nat) : Int)
          omega
        rw [this]
        rfl
    · cases h
  · split at h
    · rename_i x y
      rw [binOp_mul, natIn_ok h]
      exact ⟨rfl, rfl⟩
    · cases h
  · cases h

theorem abinOp_ok {op : BinOp} {t : TypeId} {ox oy : Operand} {x y r : AVal} {u v : Value} (h : abinOp P op t ox oy x y = .ok r) (hu : VRel σ ρ x u) (hv : VRel σ ρ y v) (w : World) :
    ∃ z, (do eqGuard op t ox oy u v; binOp op t u v : Sem Value).run P w = .ok z w ∧ VRel σ ρ r z := by
  unfold abinOp at h
  split at h
  · rename_i r' hf
    rw [forceV_eq] at h
    cases h
    unfold fastOp at hf
    split at hf
    · rename_i k a j b
      cases hk : Nat.beq (kindNo k) (kindNo j) with
      | false => rw [hk] at hf; cases hf
      | true =>
        rw [hk, cond_true] at hf
        have := kindNo_ok hk
        subst this
        split at hf
        · rename_i z hz
          cases hf
          obtain ⟨rfl, _⟩ := hu
          obtain ⟨rfl, _⟩ := hv
          obtain ⟨h1, h2⟩ := fastBin_ok (P := P) hz t ox oy w
          exact ⟨z, h1, rfl, h2⟩
        · cases hf
    · cases hf
  unfold slowOp at h
  split at h
  · rename_i a b ha hb
    obtain ⟨z, h1, h2⟩ := litV_ok (σ := σ) h
    rw [toVal_ok ha hu, toVal_ok hb hv]
    exact ⟨z, pureRun_ok w h1, h2 ρ⟩
  · split at h
    · obtain ⟨c, h1, h⟩ := R.bind_ok' h
      cases h
      exact ⟨_, (aeqSame_ok h1 hu hv ox oy w).1, rfl, rfl⟩
    · obtain ⟨c, h1, h⟩ := R.bind_ok' h
      cases h
      exact ⟨_, (aeqSame_ok h1 hu hv ox oy w).2, rfl, rfl⟩
    · cases h

theorem binOp_ok {op : BinOp} {t : TypeId} {x y : Operand} (hw : WRel σ N0 w0 ρ s w) (hx : EvOk σ ρ ev e x) (hy : EvOk σ ρ ev e y) (h : opBinOp P ev op t x y s = .ok (nx, s')) :
    NSem P σ N0 w0 (do pure (.value (← (do eqGuard op t x y (e x) (e y); binOp op t (e x) (e y))))) ρ s w nx s' := by
  unfold opBinOp at h
  obtain ⟨a, h1, h⟩ := R.bind_ok' h
  obtain ⟨b, h2, h⟩ := R.bind_ok' h
  obtain ⟨r, h3, h⟩ := R.bind_ok' h
  obtain ⟨rfl, rfl⟩ := okv_ok h
  obtain ⟨z, h4, h5⟩ := abinOp_ok h3 (hx a h1) (hy b h2) w
  exact NSem.of_v (VSem.pure hw h4 h5)

theorem nilCheck_ok {x : Operand} (hw : WRel σ N0 w0 ρ s w) (hx : EvOk σ ρ ev e x) (h : opNilCheck P ev x s = .ok (nx, s')) :
    ∃ v, nx = .val v ∧ s' = s ∧ VRel σ ρ v (e x) ∧ e x ≠ .pointer none ∧ e x ≠ .nilIface ∧ e x ≠ .nilFunc ∧ ∀ n f c, e x ≠ .func (.method n) f c := by
  unfold opNilCheck at h
  obtain ⟨a, h1, h⟩ := R.bind_ok' h
  obtain ⟨b, h2, h⟩ := R.bind_ok' h
  obtain ⟨rfl, rfl⟩ := okv_ok h
  have hv := hx a h1
  unfold nilCk at h2
  split at h2
  · cases h2
  · cases h2
  · cases h2
  · cases h2
  rename_i n1 n2 n3 n4
  cases h2
  refine ⟨_, rfl, rfl, hv, ?_⟩
  cases a with
  | slice b o l c => cases c <;> simp only [VRel] at hv <;> (obtain ⟨_, hv⟩ := hv; first | (obtain ⟨_, hv⟩ := hv; first | (obtain ⟨_, hv, _⟩ := hv; rw [hv]) | (rw [hv]))) <;> simp
  | lit v =>
    simp only [VRel] at hv
    rw [hv.1]
    refine ⟨fun e => n1 (by rw [e]), fun e => n2 (by rw [e]), fun e => n3 (by rw [e]), fun n f c e => n4 _ _ _ (by rw [e])⟩
  | sym i => simp only [VRel] at hv; rw [hv]; simp
  | ptr b o => simp only [VRel] at hv; obtain ⟨_, _, hv⟩ := hv; rw [hv]; simp
  | map b => simp only [VRel] at hv; obtain ⟨_, _, hv⟩ := hv; rw [hv]; simp
  | clo f cs => simp only [VRel] at hv; obtain ⟨_, hv, _⟩ := hv; rw [hv]; simp
  | agg cs => simp only [VRel] at hv; obtain ⟨_, hv, _⟩ := hv; rw [hv]; simp
  | tup cs => simp only [VRel] at hv; obtain ⟨_, hv, _⟩ := hv; rw [hv]; simp

theorem extract_ok {x : Operand} {i : Nat} (hw : WRel σ N0 w0 ρ s w) (hx : EvOk σ ρ ev e x) (h : opExtract P ev x i s = .ok (nx, s')) :
    NSem P σ N0 w0 (do pure (.value (← Instr.extract (e x) i))) ρ s w nx s' := by
  unfold opExtract at h
  obtain ⟨a, h1, h⟩ := R.bind_ok' h
  split at h
  · rename_i vs
    obtain ⟨v, h2, h⟩ := R.bind_ok' h
    obtain ⟨rfl, rfl⟩ := okv_ok h
    obtain ⟨ws, hws, hr⟩ := hx _ h1
    obtain ⟨u, hu, hv⟩ := hr.get i v (nth_ok h2)
    refine NSem.of_v (VSem.pure hw (u := u) ?_ hv)
    rw [hws]
    have : ws[i]? = some u := by rw [← Array.getElem?_toList]; exact hu
    simp [Instr.extract, this]
  · cases h

theorem evs_ok : ∀ {l : List Operand} {vs : List AVal}, (∀ x ∈ l, EvOk σ ρ ev e x) → evs ev l = .ok vs → VRels σ ρ vs (l.map e)
  | [], vs, _, h => by cases h; rfl
  | x :: l, vs, hx, h => by
    unfold evs at h
    obtain ⟨v, h1, h⟩ := R.bind_ok' h
    obtain ⟨r, h2, h⟩ := R.bind_ok' h
    cases h
    exact ⟨e x, l.map e, rfl, hx x (by simp) v h1, evs_ok (fun y hy => hx y (by simp [hy])) h2⟩

theorem makeFunc_ok {f : FuncId} {first caps : Array Operand} (hw : WRel σ N0 w0 ρ s w) (hx : ∀ x ∈ caps.toList, EvOk σ ρ ev e x) (h : opMakeFunc P ev f first caps s = .ok (nx, s')) :
    NSem P σ N0 w0 (do pure (.value (← Instr.makeFunc (.func f) (first.map e) (caps.map e)))) ρ s w nx s' := by
  unfold opMakeFunc at h
  obtain ⟨_, h1, h⟩ := R.bind_ok' h
  obtain ⟨vs, h2, h⟩ := R.bind_ok' h
  obtain ⟨rfl, rfl⟩ := okv_ok h
  have h1 := Nat.eq_of_beq_eq_true (guardR_ok h1)
  have hf : first = #[] := Array.eq_empty_of_size_eq_zero h1
  subst hf
  refine NSem.of_v (VSem.pure hw (u := .func (.func f) #[] (caps.map e)) (by simp [Instr.makeFunc]) ⟨caps.map e, rfl, ?_⟩)
  rw [Array.toList_map]
  exact evs_ok hx h2

theorem idxOf_ok {i : Int} {n k : Nat} (h : idxOf i n = .ok k) : i = k ∧ k < n := by
  unfold idxOf at h
  split at h
  · rename_i m
    cases hq : Nat.blt m n with
    | false => rw [hq] at h; cases h
    | true => rw [hq, cond_true] at h; cases h; exact ⟨rfl, Nat.le_of_ble_eq_true hq⟩
  · cases h

theorem partA_ok {t : TypeId} {cs : List AVal} {off : Nat} {v : AVal} {us : Array Value} (h : partA P t cs off = .ok v) (hr : VRels σ ρ cs us.toList) (w : World) :
    ∃ u, (part t us off).run P w = .ok u w ∧ VRel σ ρ v u := by
  unfold partA at h
  obtain ⟨d, h1, h⟩ := R.bind_ok' h
  cases hq : isAggD d with
  | true =>
    rw [hq, cond_true] at h
    obtain ⟨n, h2, h⟩ := R.bind_ok' h
    obtain ⟨l, h3, h⟩ := R.bind_ok' h
    cases h
    obtain ⟨h4, h5⟩ := takeN_ok h3
    refine ⟨.agg (us.extract off (off + n)), by simp [part, isAggD_ok h1, hq, run_sz h2], ⟨_, rfl, ?_⟩⟩
    rw [h4, Array.toList_extract, List.extract_eq_take_drop]
    have := (hr.drop off).take n
    rwa [show off + n - off = n by omega]
  | false =>
    rw [hq, cond_false] at h
    obtain ⟨u, hu, hv⟩ := hr.get off v (nth_ok h)
    refine ⟨u, ?_, hv⟩
    have : us[off]? = some u := by rw [← Array.getElem?_toList]; exact hu
    simp [part, isAggD_ok h1, hq, this]

theorem field_ok {t : TypeId} {x : Operand} {f : Nat} (hw : WRel σ N0 w0 ρ s w) (hx : EvOk σ ρ ev e x) (h : opField P ev t x f s = .ok (nx, s')) :
    NSem P σ N0 w0 (do pure (.value (← Instr.field t (e x) f))) ρ s w nx s' := by
  unfold opField at h
  obtain ⟨a, h1, h⟩ := R.bind_ok' h
  obtain ⟨d, h2, h⟩ := R.bind_ok' h
  split at h
  · rename_i cs fs
    obtain ⟨fd, h3, h⟩ := R.bind_ok' h
    obtain ⟨v, h4, h⟩ := R.bind_ok' h
    obtain ⟨rfl, rfl⟩ := okv_ok h
    obtain ⟨us, hus, hr⟩ := hx _ h1
    obtain ⟨u, hu, hv⟩ := partA_ok h4 hr w
    refine NSem.of_v (VSem.pure hw (u := u) ?_ hv)
    rw [hus]
    simp [Instr.field, run_und h2, R.of_ok h3, asAgg, hu]
  · cases h

theorem index_ok {t : TypeId} {x i : Operand} (hw : WRel σ N0 w0 ρ s w) (hx : EvOk σ ρ ev e x) (hi : EvOk σ ρ ev e i) (h : opIndex P ev t x i s = .ok (nx, s')) :
    NSem P σ N0 w0 (do pure (.value (← Instr.index t (e x) (e i)))) ρ s w nx s' := by
  unfold opIndex at h
  obtain ⟨a, h1, h⟩ := R.bind_ok' h
  obtain ⟨⟨k, n⟩, h2, h⟩ := R.bind_ok' h
  obtain ⟨d, h3, h⟩ := R.bind_ok' h
  obtain ⟨b, h4, h⟩ := R.bind_ok' h
  split at h
  · rename_i len el cs _
    obtain ⟨j, h5, h⟩ := R.bind_ok' h
    obtain ⟨sz, h6, h⟩ := R.bind_ok' h
    obtain ⟨v, h7, h⟩ := R.bind_ok' h
    obtain ⟨rfl, rfl⟩ := okv_ok h
    obtain ⟨us, hus, hr⟩ := hx _ h4
    obtain ⟨u, hu, hv⟩ := partA_ok h7 hr w
    have hn := asNatLit_ok h2 (hi _ h1)
    obtain ⟨rfl, hj⟩ := idxOf_ok h5
    refine NSem.of_v (VSem.pure hw (u := u) ?_ hv)
    rw [hus, hn]
    have hlt : 0 ≤ (j : Int) ∧ (j : Int) < (len : Int) := by omega
    simp only [Instr.index, asIntOf, Sem.run_bind, Sem.run_pure, Result.andThen_ok, run_und h3, if_pos hlt, run_sz h6, Int.toNat_natCast, hu]
  · rename_i bs _
    cases n with
    | negSucc j => cases h
    | ofNat j =>
      obtain ⟨c, h5, h⟩ := R.bind_ok' h
      obtain ⟨rfl, rfl⟩ := okv_ok h
      obtain ⟨hus, _⟩ := hx _ h4
      have hn := asNatLit_ok h2 (hi _ h1)
      refine NSem.of_v (VSem.pure hw (u := .int .u8 c.toNat) ?_ ⟨rfl, rfl⟩)
      rw [hus, hn]
      have hb := R.of_ok h5
      simp [Instr.index, asIntOf, run_und h3, hb]
  · cases h

theorem fieldAddr_ok {t : TypeId} {x : Operand} {f : Nat} (hw : WRel σ N0 w0 ρ s w) (hx : EvOk σ ρ ev e x) (h : opFieldAddr P ev t x f s = .ok (nx, s')) :
    NSem P σ N0 w0 (do pure (.value (← Instr.fieldAt t (e x) f))) ρ s w nx s' := by
  unfold opFieldAddr at h
  obtain ⟨a, h1, h⟩ := R.bind_ok' h
  obtain ⟨⟨b, o⟩, h2, h⟩ := R.bind_ok' h
  obtain ⟨d, h3, h⟩ := R.bind_ok' h
  split at h
  · rename_i fs
    obtain ⟨fd, h4, h⟩ := R.bind_ok' h
    obtain ⟨n, h5, h⟩ := R.bind_ok' h
    obtain ⟨_, h6, h⟩ := R.bind_ok' h
    obtain ⟨rfl, rfl⟩ := okv_ok h
    obtain ⟨L, hL, hp⟩ := asPtr_ok h2 (hx _ h1)
    have hn : n ≠ 0 := by have := Nat.le_of_ble_eq_true (guardR_ok h6); omega
    refine NSem.of_v (VSem.pure hw (u := .pointer (some ⟨L.blk, L.off + (o + fd.offset), none⟩)) ?_ ⟨L, hL, rfl⟩)
    rw [hp]
    simp [Instr.fieldAt, run_und h3, R.of_ok h4, Instr.sureAddr, fieldPlace, run_sz h5, hn, Addr.add_mid, Nat.add_assoc]
  · cases h

theorem indexAddr_ok {t : TypeId} {x i : Operand} (hw : WRel σ N0 w0 ρ s w) (hx : EvOk σ ρ ev e x) (hi : EvOk σ ρ ev e i) (h : opIndexAddr P ev t x i s = .ok (nx, s')) :
    NSem P σ N0 w0 (do pure (.value (← Instr.indexAt t (e x) (e i)))) ρ s w nx s' := by
  unfold opIndexAddr at h
  obtain ⟨a, h1, h⟩ := R.bind_ok' h
  obtain ⟨⟨k, n⟩, h2, h⟩ := R.bind_ok' h
  obtain ⟨d, h3, h⟩ := R.bind_ok' h
  obtain ⟨b, h4, h⟩ := R.bind_ok' h
  have hn := asNatLit_ok h2 (hi _ h1)
  split at h
  · rename_i len el b o _
    obtain ⟨j, h5, h⟩ := R.bind_ok' h
    obtain ⟨sz, h6, h⟩ := R.bind_ok' h
    obtain ⟨rfl, rfl⟩ := okv_ok h
    obtain ⟨L, hL, hp⟩ := hx _ h4
    obtain ⟨rfl, hj⟩ := idxOf_ok h5
    refine NSem.of_v (VSem.pure hw (u := .pointer (some ⟨L.blk, L.off + (o + j * sz), none⟩)) ?_ ⟨L, hL, rfl⟩)
    rw [hp, hn]
    have hlt : 0 ≤ (j : Int) ∧ (j : Int) < (len : Int) := by omega
    simp only [Instr.indexAt, asIntOf, Sem.run_bind, Sem.run_pure, Result.andThen_ok, run_und h3, Instr.sureAddr, if_pos hlt, run_sz h6, Int.toNat_natCast, Addr.add_mid, Nat.add_assoc]
  · rename_i el b o len c _
    obtain ⟨j, h5, h⟩ := R.bind_ok' h
    obtain ⟨sz, h6, h⟩ := R.bind_ok' h
    obtain ⟨rfl, rfl⟩ := okv_ok h
    obtain ⟨rfl, hj⟩ := idxOf_ok h5
    have : ∃ L k, ρ b = some L ∧ e x = .slice (some ⟨L.blk, L.off + o, none⟩) len k := by
      have := hx _ h4
      cases c with
      | known k => obtain ⟨L, h1, h2⟩ := this; exact ⟨L, k, h1, h2⟩
      | grown g => obtain ⟨L, k, h1, h2, _⟩ := this; exact ⟨L, k, h1, h2⟩
    obtain ⟨L, k, hL, hp⟩ := this
    refine NSem.of_v (VSem.pure hw (u := .pointer (some ⟨L.blk, L.off + (o + j * sz), none⟩)) ?_ ⟨L, hL, rfl⟩)
    rw [hp, hn]
    have hlt : 0 ≤ (j : Int) ∧ (j : Int) < (len : Int) := by omega
    simp only [Instr.indexAt, asIntOf, Sem.run_bind, Sem.run_pure, Result.andThen_ok, run_und h3, if_pos hlt, run_sz h6, Int.toNat_natCast, Addr.add_mid, Nat.add_assoc]
  · cases h

theorem load_ok {t : TypeId} {x : Operand} (hw : WRel σ N0 w0 ρ s w) (hx : EvOk σ ρ ev e x) (h : opLoad P ev t x s = .ok (nx, s')) :
    NSem P σ N0 w0 (do pure (.value (← Instr.loadAt t (e x)))) ρ s w nx s' := by
  unfold opLoad at h
  obtain ⟨a, h1, h⟩ := R.bind_ok' h
  obtain ⟨⟨b, o⟩, h2, h⟩ := R.bind_ok' h
  obtain ⟨v, h3, h⟩ := R.bind_ok' h
  obtain ⟨rfl, rfl⟩ := okv_ok h
  obtain ⟨L, hL, hp⟩ := asPtr_ok h2 (hx _ h1)
  obtain ⟨u, hu, hv⟩ := loadA_ok hw h3 hL
  refine NSem.of_v (VSem.pure hw (u := u) ?_ hv)
  rw [hp]
  simp [Instr.loadAt, Instr.sureAddr, hu]

theorem store_ok {t : TypeId} {x v : Operand} (hw : WRel σ N0 w0 ρ s w) (hx : EvOk σ ρ ev e x) (hv : EvOk σ ρ ev e v) (h : opStore P ev t x v s = .ok (nx, s')) :
    NSem P σ N0 w0 (do Instr.storeAt t (e x) (e v); pure .skip) ρ s w nx s' := by
  unfold opStore at h
  obtain ⟨a, h1, h⟩ := R.bind_ok' h
  obtain ⟨⟨b, o⟩, h2, h⟩ := R.bind_ok' h
  obtain ⟨y, h3, h⟩ := R.bind_ok' h
  obtain ⟨s1, h4, h⟩ := R.bind_ok' h
  obtain ⟨rfl, rfl⟩ := okv_ok h
  obtain ⟨L, hL, hp⟩ := asPtr_ok h2 (hx _ h1)
  obtain ⟨w', hu, hpost⟩ := storeA_ok (P := P) hw h4 hL (hv _ h3)
  refine NSem.of_u ⟨w', ρ, ?_, hpost⟩
  rw [hp]
  simp [Instr.storeAt, Instr.sureAddr, hu]

end
end Go.Am
