/-
  The abstract machine's operations against the model's: maps.
-/
import Derived.Test.YtonbcchdaboigaaAm8
namespace Go.Am
open Go Go.RowKit
set_option linter.unusedVariables false

section
variable {σ : Syms} {N0 : Nat} {w0 : World} {P : Program} {ev : Operand → R AVal} {e : Operand → Value} {ρ : Ren} {s s' : AState} {w : World} {nx : ANext}

theorem ERels.length : ∀ {es : List AEntry} {ms : List MapEntry}, ERels σ ρ es ms → ms.length = es.length
  | [], ms, h => by simp only [ERels] at h; subst h; rfl
  | e :: r, ms, ⟨m, ns, h, _, _, _, h5⟩ => by subst h; simp [ERels.length h5]

theorem ERels.get : ∀ {es : List AEntry} {ms : List MapEntry}, ERels σ ρ es ms → ∀ (i : Nat) (e : AEntry), es[i]? = some e → ∃ m, ms[i]? = some m ∧ m.key = e.key ∧ m.born = e.born ∧ VRel σ ρ e.val m.val
  | [], ms, h, i, e, hi => by simp at hi
  | e :: r, ms, ⟨m, ns, h, h2, h3, h4, h5⟩, i, e', hi => by
    subst h
    cases i with
    | zero => simp at hi; subst hi; exact ⟨m, rfl, h2, h3, h4⟩
    | succ i => simpa using ERels.get h5 i e' (by simpa using hi)

theorem ERels.append : ∀ {es es' : List AEntry} {ms ms' : List MapEntry}, ERels σ ρ es ms → ERels σ ρ es' ms' → ERels σ ρ (es ++ es') (ms ++ ms')
  | [], _, ms, _, h, h' => by simp only [ERels] at h; subst h; exact h'
  | e :: r, _, ms, _, ⟨m, ns, h, h2, h3, h4, h5⟩, h' => by subst h; exact ⟨m, ns ++ _, rfl, h2, h3, h4, ERels.append h5 h'⟩

theorem ERels.modify {f : AEntry → AEntry} {g : MapEntry → MapEntry} : ∀ {es : List AEntry} {ms : List MapEntry} (i : Nat), ERels σ ρ es ms →
    (∀ (e : AEntry) (m : MapEntry), es[i]? = some e → ms[i]? = some m → m.key = e.key → m.born = e.born → VRel σ ρ e.val m.val → (g m).key = (f e).key ∧ (g m).born = (f e).born ∧ VRel σ ρ (f e).val (g m).val) → ERels σ ρ (es.modify i f) (ms.modify i g)
  | [], ms, i, h, _ => by simp only [ERels] at h; subst h; simp [ERels]
  | e :: r, ms, i, ⟨m, ns, h, h2, h3, h4, h5⟩, hf => by
    subst h
    cases i with
    | zero =>
      obtain ⟨k1, k2, k3⟩ := hf e m rfl rfl h2 h3 h4
      exact ⟨g m, ns, rfl, k1, k2, k3, h5⟩
    | succ i =>
      exact ⟨m, ns.modify i g, rfl, h2, h3, h4, ERels.modify i h5 fun e' m' he hm => hf e' m' (by simpa using he) (by simpa using hm)⟩

theorem ERels.eraseIdx : ∀ {es : List AEntry} {ms : List MapEntry} (i : Nat), ERels σ ρ es ms → ERels σ ρ (es.eraseIdx i) (ms.eraseIdx i)
  | [], ms, i, h => by simp only [ERels] at h; subst h; simp [ERels]
  | e :: r, ms, i, ⟨m, ns, h, h2, h3, h4, h5⟩ => by
    subst h
    cases i with
    | zero => exact h5
    | succ i => exact ⟨m, ns.eraseIdx i, rfl, h2, h3, h4, ERels.eraseIdx i h5⟩

theorem intKey_ok {t e : TypeId} (h : intKey P t = .ok e) : ∃ k kd, P.underlying t = some (.map k e) ∧ P.underlying k = some (.int kd) := by
  unfold intKey at h
  replace h := R.bind_ok' h
  obtain ⟨d, h1, h⟩ := h
  split at h
  · rename_i k e'
    replace h := R.bind_ok' h
    obtain ⟨d, h2, h⟩ := h
    split at h
    · rename_i kd
      cases h
      exact ⟨k, kd, und_ok h1, und_ok h2⟩
    · cases h
  · cases h

theorem asKey_ok {a : AVal} {k u : Value} (h : asKey a = .ok k) (hv : VRel σ ρ a u) : u = k ∧ ∃ j n, k = .int j n := by
  unfold asKey at h
  split at h
  · cases h; exact ⟨hv.1, _, _, rfl⟩
  · cases h

theorem keyIs_ok {j : IntKind} {n : Int} {k' : Value} {b : Bool} (h : keyIs (.int j n) k' = .ok b) : ∃ n', k' = .int j n' ∧ b = (n == n') := by
  unfold keyIs at h
  split at h
  · rename_i j1 a j2 a' h1
    cases h1
    cases hq : decide (j = j2) with
    | false => rw [hq] at h; cases h
    | true =>
      rw [hq, cond_true] at h
      cases h
      have := of_decide_eq_true hq
      subst this
      exact ⟨_, rfl, rfl⟩
  · cases h

theorem findA_ok {kd j : IntKind} {n : Int} : ∀ {es : List AEntry} {ms : List MapEntry} {i : Nat} {r : Option (Nat × AVal)}, ERels σ ρ es ms → findA (.int j n) es i = .ok r →
    ∃ q, Instr.findNow (.int kd) (.int j n) ms i = some q ∧ (match r, q with
      | none, none => True
      | some (a, v), some (b, u) => a = b ∧ VRel σ ρ v u ∧ ∃ x, i ≤ a ∧ es[a - i]? = some x ∧ x.val = v ∧ ∃ m, x.key = .int j m ∧ m = n
      | _, _ => False)
  | [], ms, i, r, h, hf => by
    simp only [ERels] at h; subst h
    cases hf
    exact ⟨none, rfl, trivial⟩
  | x :: es, ms, i, r, ⟨m, ns, h, h2, h3, h4, h5⟩, hf => by
    subst h
    unfold findA at hf
    replace hf := R.bind_ok' hf
    obtain ⟨b, hb, hf⟩ := hf
    obtain ⟨n', hk, hbn⟩ := keyIs_ok hb
    unfold Instr.findNow
    have hs : Instr.sameNow (.int kd) (.int j n) m.key = some (n == n') := by rw [h2, hk]; simp [Instr.sameNow]
    rw [hs]
    cases hq : (n == n') with
    | true =>
      rw [hbn, hq, cond_true] at hf
      cases hf
      have hnn : n = n' := by simpa using hq
      exact ⟨some (i, m.val), rfl, rfl, h4, x, Nat.le_refl _, by simp, rfl, n', hk, hnn.symm⟩
    | false =>
      rw [hbn, hq, cond_false] at hf
      obtain ⟨q, h6, h7⟩ := findA_ok (kd := kd) h5 hf
      refine ⟨q, h6, ?_⟩
      cases r with
      | none => cases q <;> exact h7
      | some p => cases q with
        | none => exact h7
        | some p' =>
          obtain ⟨k1, k2, y, k3, k4, k5⟩ := h7
          refine ⟨k1, k2, y, by omega, ?_, k5⟩
          rw [show p.1 - i = (p.1 - (i + 1)) + 1 by omega, List.getElem?_cons_succ]
          exact k4

theorem checkKey_int {t : TypeId} {kd j : IntKind} {n : Int} (b : Bool) (d : Nat) (ht : P.underlying t = some (.int kd)) (w : World) : (Instr.checkKey b (d + 1) t (.int j n)).run P w = .ok () w := by
  unfold Instr.checkKey
  rw [Sem.run_bind, run_underlying ht, Result.andThen_ok]
  rfl

theorem findKey_ok {t : TypeId} {kd j : IntKind} {n : Int} {es : List AEntry} {ms : List MapEntry} {r : Option (Nat × AVal)} (ht : P.underlying t = some (.int kd)) (h : ERels σ ρ es ms) (hf : findA (.int j n) es 0 = .ok r) (w : World) :
    ∃ q, (Instr.findKey t (.int j n) ms).run P w = .ok q w ∧ (match r, q with
      | none, none => True
      | some (a, v), some (b, u) => a = b ∧ VRel σ ρ v u ∧ ∃ x, es[a]? = some x ∧ x.val = v ∧ x.key = .int j n
      | _, _ => False) := by
  obtain ⟨q, h1, h2⟩ := findA_ok (kd := kd) h hf
  refine ⟨q, ?_, ?_⟩
  · unfold Instr.findKey
    rw [Sem.run_bind, run_underlying ht, Result.andThen_ok, h1]
    rfl
  · cases r with
    | none => cases q <;> exact h2
    | some p => cases q with
      | none => exact h2
      | some p' =>
        obtain ⟨k1, k2, y, k3, k4, k5, m, k6, k7⟩ := h2
        exact ⟨k1, k2, y, by simpa using k4, k5, by rw [k6, k7]⟩

theorem mapOf_ok {a : AVal} {u : Value} {b : Nat} {es : List AEntry} {c : Nat} (hw : WRel σ N0 w0 ρ s w) (h : mapOf s a = .ok (b, es, c)) (hv : VRel σ ρ a u) :
    ∃ L ms, ρ b = some L ∧ u = .map (some L.blk) ∧ s.heap.get b = some (.map es c) ∧ w.heap[L.blk]? = some (.map ms c) ∧ ERels σ ρ es ms.toList := by
  unfold mapOf at h
  split at h
  · rename_i b'
    replace h := R.bind_ok' h
    obtain ⟨o, h1, h⟩ := h
    split at h
    · cases h
      obtain ⟨L, hL, hu⟩ := hv
      have hb := get_ok h1
      obtain ⟨ms, h2, h3⟩ := hw.heap _ _ hb L hL
      exact ⟨L, ms, hL, hu, hb, h2, h3⟩
    · cases h
  · cases h

theorem run_getMap {r : Nat} {ms : Array MapEntry} {c : Nat} (h : w.heap[r]? = some (.map ms c)) : (getObj r).run P w = .ok (.map ms c) w := by
  simp [getObj, Sem.run, h]

theorem run_getIter {r : Nat} {m : Option Nat} {a : Nat} {l : Array Nat} {k : Nat} (h : w.heap[r]? = some (.mapIter m a l k)) : (getObj r).run P w = .ok (.mapIter m a l k) w := by
  simp [getObj, Sem.run, h]

def World.setObj (w : World) (r : Nat) (o : Obj) : World := { w with heap := w.heap.setIfInBounds r o }

theorem run_setMap {r : Nat} {ms : Array MapEntry} {c : Nat} (h : w.heap[r]? = some (.map ms c)) (o : Obj) : (setObj r o).run P w = .ok () (World.setObj w r o) := by
  simp [setObj, Sem.run, h, World.setObj]

theorem run_setIter {r : Nat} {m : Option Nat} {a : Nat} {l : Array Nat} {k : Nat} (h : w.heap[r]? = some (.mapIter m a l k)) (o : Obj) : (setObj r o).run P w = .ok () (World.setObj w r o) := by
  simp [setObj, Sem.run, h, World.setObj]

theorem heap_setObj_ne (w : World) (r : Nat) (o : Obj) (c : Nat) (h : c ≠ r) : (World.setObj w r o).heap[c]? = w.heap[c]? := by
  simp only [World.setObj]
  rw [Array.getElem?_setIfInBounds_ne (Ne.symm h)]

theorem heap_setObj_eq (w : World) (r : Nat) (o : Obj) (h : r < w.heap.size) : (World.setObj w r o).heap[r]? = some o := by
  simp [World.setObj, h]

theorem Below.setObj' {B : Nat} {w : World} {r : Nat} {o : Obj} (h : B ≤ r) : Below B w (World.setObj w r o) :=
  ⟨rfl, rfl, rfl, by simp [World.setObj], fun k hk => heap_setObj_ne w r o k (by omega)⟩

/-- A map or an iterator of the run's own is turned. -/
theorem Post.setObj {b : Nat} {o o' : AObj} {O : Obj} {L : Loc} (hw : WRel σ N0 w0 ρ s w) (hb : s.heap.get b = some o) (hL : ρ b = some L) (h : s.write b o' = .ok s') (ho : ORel σ ρ L true (World.setObj w L.blk O) o') :
    Post σ N0 w0 ρ s w ρ s' (World.setObj w L.blk O) := by
  have hro : s.ro ≤ b := (write_ok (by have := hw.dom b (by rw [hb]; simp); have := hw.bnd; omega) h).1
  exact Post.write hw h (by rw [hb]; simp) hL (Below.setObj' ((hw.rng b L hL).2.1 hro)) (by simp [World.setObj]) (fun c hc => heap_setObj_ne w L.blk O c hc) ho

theorem lookup_op {t : TypeId} {x k : Operand} {ok : Bool} (hw : WRel σ N0 w0 ρ s w) (hx : EvOk σ ρ ev e x) (hk : EvOk σ ρ ev e k) (h : opLookup P ev t x k ok s = .ok (nx, s')) :
    NSem P σ N0 w0 (do pure (.value (← Instr.lookup t (e x) (e k) ok))) ρ s w nx s' := by
  unfold opLookup at h
  replace h := R.bind_ok' h
  obtain ⟨el, h1, h⟩ := h
  replace h := R.bind_ok' h
  obtain ⟨ka, h2, h⟩ := h
  replace h := R.bind_ok' h
  obtain ⟨kv, h3, h⟩ := h
  replace h := R.bind_ok' h
  obtain ⟨xa, h4, h⟩ := h
  replace h := R.bind_ok' h
  obtain ⟨r, h5, h⟩ := h
  replace h := R.bind_ok' h
  obtain ⟨p, h6, h⟩ := h
  obtain ⟨rfl, rfl⟩ := okv_ok h
  clear h
  obtain ⟨key, kd, ht, hkd⟩ := intKey_ok h1
  obtain ⟨hke, j, n, rfl⟩ := asKey_ok h3 (hk _ h2)
  have hxv := hx _ h4
  have hck : ∀ b, (Instr.checkKey b 10000 key (.int j n)).run P w = .ok () w := fun b => checkKey_int b 9999 hkd w
  have fin : ∀ (u : Value), VRel σ ρ p.1 u → VRel σ ρ (bif ok then .tup [p.1, .lit (.bool p.2)] else p.1) (if ok then .tuple #[u, .bool p.2] else u) := fun u hu2 => by
    cases ok
    · exact hu2
    · exact ⟨#[u, .bool p.2], rfl, u, [.bool p.2], rfl, hu2, .bool p.2, [], rfl, ⟨rfl, rfl⟩, rfl⟩
  unfold lookIn at h5
  split at h5
  · cases h5
    simp only [VRel] at hxv
    have hfk : (Instr.findKey key (.int j n) []).run P w = .ok none w := by
      unfold Instr.findKey
      rw [Sem.run_bind, run_underlying hkd, Result.andThen_ok]
      rfl
    unfold lookVal at h6
    replace h6 := R.bind_ok' h6
    obtain ⟨z, hz, h6⟩ := h6
    cases h6
    obtain ⟨zv, hz1, hz2⟩ := zeroOf_ok (σ := σ) hz
    refine NSem.of_v (VSem.pure hw (u := if ok then .tuple #[zv, .bool false] else zv) ?_ (fin zv (hz2 ρ)))
    simp only [Instr.lookup, hke, Sem.run_bind, run_underlying ht, Result.andThen_ok, hxv.1, Sem.run_pure, hck, hfk, hz1]
  · replace h5 := R.bind_ok' h5
    obtain ⟨⟨b, es, c⟩, h7, h5⟩ := h5
    obtain ⟨L, ms, hL, hu, hb, hm, hr⟩ := mapOf_ok hw h7 hxv
    obtain ⟨q, h8, h9⟩ := findKey_ok (P := P) hkd hr h5 w
    cases r with
    | none =>
      cases q with
      | some qv => exact h9.elim
      | none =>
        unfold lookVal at h6
        replace h6 := R.bind_ok' h6
        obtain ⟨z, hz, h6⟩ := h6
        cases h6
        obtain ⟨zv, hz1, hz2⟩ := zeroOf_ok (σ := σ) hz
        refine NSem.of_v (VSem.pure hw (u := if ok then .tuple #[zv, .bool false] else zv) ?_ (fin zv (hz2 ρ)))
        simp only [Instr.lookup, hke, Sem.run_bind, run_underlying ht, Result.andThen_ok, hu, Sem.run_pure, run_getMap hm, hck, h8, hz1]
    | some rv =>
      cases q with
      | none => exact h9.elim
      | some qv =>
        cases h6
        refine NSem.of_v (VSem.pure hw (u := if ok then .tuple #[qv.2, .bool true] else qv.2) ?_ (fin qv.2 h9.2.1))
        simp only [Instr.lookup, hke, Sem.run_bind, run_underlying ht, Result.andThen_ok, hu, Sem.run_pure, run_getMap hm, hck, h8]

theorem sameBits_int (d : Nat) (j : IntKind) (n : Int) : Instr.sameBits d (.int j n) (.int j n) = true := by
  unfold Instr.sameBits; simp

theorem keyStays (j : IntKind) (n : Int) : (Instr.keyThatStays (.int j n) (.int j n)).run P w = .ok (.int j n) w := by
  unfold Instr.keyThatStays
  rw [sameBits_int]
  rfl

theorem mapPut_ok {key : TypeId} {kd j : IntKind} {n : Int} {b : Nat} {es : List AEntry} {c : Nat} {v : AVal} {u : Value} {L : Loc} {ms : Array MapEntry} {t el : TypeId}
    (hw : WRel σ N0 w0 ρ s w) (ht : P.underlying t = some (.map key el)) (hkd : P.underlying key = some (.int kd)) (hL : ρ b = some L) (hb : s.heap.get b = some (.map es c)) (hm : w.heap[L.blk]? = some (.map ms c)) (hr : ERels σ ρ es ms.toList)
    (h : mapPut s b es c (.int j n) v = .ok s') (hv : VRel σ ρ v u) : ∃ w', (Instr.mapUpdate t (.map (some L.blk)) (.int j n) u).run P w = .ok () w' ∧ Post σ N0 w0 ρ s w ρ s' w' := by
  have hck : ∀ b, (Instr.checkKey b 10000 key (.int j n)).run P w = .ok () w := fun b => checkKey_int b 9999 hkd w
  have hlt : L.blk < w.heap.size := (hw.rng b L hL).1
  unfold mapPut at h
  replace h := R.bind_ok' h
  obtain ⟨r, h1, h⟩ := h
  obtain ⟨q, h2, h3⟩ := findKey_ok (P := P) hkd hr h1 w
  cases r with
  | none =>
    cases q with
    | some qv => exact h3.elim
    | none =>
      have hpost := Post.setObj (O := .map (ms.push { key := .int j n, val := u, born := c }) (c + 1)) hw hb hL h ⟨_, heap_setObj_eq w _ _ hlt, by
        rw [Array.toList_push]
        exact hr.append ⟨_, [], rfl, rfl, rfl, hv, rfl⟩⟩
      refine ⟨_, ?_, hpost⟩
      simp only [Instr.mapUpdate, Sem.run_bind, run_underlying ht, Result.andThen_ok, run_getMap hm, hck, h2, run_setMap hm]
  | some rv =>
    cases q with
    | none => exact h3.elim
    | some qv =>
      obtain ⟨i, rv⟩ := rv
      obtain ⟨i', qv⟩ := qv
      obtain ⟨rfl, h4, x, h5, h6, h7⟩ := h3
      have hmi : ∃ m, ms[i]? = some m ∧ m.key = .int j n := by
        obtain ⟨m, hm1, hm2, _⟩ := hr.get i x h5
        exact ⟨m, by rw [← Array.getElem?_toList]; exact hm1, by rw [hm2, h7]⟩
      obtain ⟨m, hm1, hm2⟩ := hmi
      have hpost := Post.setObj (O := .map (ms.modify i fun e => { e with key := .int j n, val := u }) c) hw hb hL h ⟨_, heap_setObj_eq w _ _ hlt, by
        rw [Array.toList_modify]
        exact hr.modify i fun e m he hm hk hbn hvv => ⟨rfl, hbn, hv⟩⟩
      refine ⟨_, ?_, hpost⟩
      simp only [Instr.mapUpdate, Sem.run_bind, run_underlying ht, Result.andThen_ok, run_getMap hm, hck, h2, hm1, Option.map_some, Option.getD_some, hm2, keyStays, run_setMap hm]

theorem mapUpdate_op {t : TypeId} {m k v : Operand} (hw : WRel σ N0 w0 ρ s w) (hm : EvOk σ ρ ev e m) (hk : EvOk σ ρ ev e k) (hv : EvOk σ ρ ev e v) (h : opMapUpdate P ev t m k v s = .ok (nx, s')) :
    NSem P σ N0 w0 (do Instr.mapUpdate t (e m) (e k) (e v); pure .skip) ρ s w nx s' := by
  unfold opMapUpdate at h
  replace h := R.bind_ok' h
  obtain ⟨el, h1, h⟩ := h
  replace h := R.bind_ok' h
  obtain ⟨ka, h2, h⟩ := h
  replace h := R.bind_ok' h
  obtain ⟨kv, h3, h⟩ := h
  replace h := R.bind_ok' h
  obtain ⟨va, h4, h⟩ := h
  replace h := R.bind_ok' h
  obtain ⟨ma, h5, h⟩ := h
  replace h := R.bind_ok' h
  obtain ⟨⟨b, es, c⟩, h6, h⟩ := h
  replace h := R.bind_ok' h
  obtain ⟨s1, h7, h⟩ := h
  obtain ⟨rfl, rfl⟩ := okv_ok h
  obtain ⟨key, kd, ht, hkd⟩ := intKey_ok h1
  obtain ⟨hke, j, n, rfl⟩ := asKey_ok h3 (hk _ h2)
  obtain ⟨L, ms, hL, hu, hb, hmm, hr⟩ := mapOf_ok hw h6 (hm _ h5)
  obtain ⟨w', h8, h9⟩ := mapPut_ok hw ht hkd hL hb hmm hr h7 (hv _ h4)
  exact NSem.of_u ⟨w', ρ, by rw [hu, hke]; exact h8, h9⟩

theorem mapEntry_op {t : TypeId} {m k : Operand} (hw : WRel σ N0 w0 ρ s w) (hm : EvOk σ ρ ev e m) (hk : EvOk σ ρ ev e k) (h : opMapEntry P ev t m k s = .ok (nx, s')) :
    NSem P σ N0 w0 (do pure (.value (← Instr.mapEntry t (e m) (e k)))) ρ s w nx s' := by
  unfold opMapEntry at h
  replace h := R.bind_ok' h
  obtain ⟨el, h1, h⟩ := h
  replace h := R.bind_ok' h
  obtain ⟨ka, h2, h⟩ := h
  replace h := R.bind_ok' h
  obtain ⟨kv, h3, h⟩ := h
  replace h := R.bind_ok' h
  obtain ⟨ma, h5, h⟩ := h
  replace h := R.bind_ok' h
  obtain ⟨⟨b, es, c⟩, h6, h⟩ := h
  replace h := R.bind_ok' h
  obtain ⟨r, h7, h⟩ := h
  obtain ⟨key, kd, ht, hkd⟩ := intKey_ok h1
  obtain ⟨hke, j, n, rfl⟩ := asKey_ok h3 (hk _ h2)
  obtain ⟨L, ms, hL, hu, hb, hmm, hr⟩ := mapOf_ok hw h6 (hm _ h5)
  have hck : ∀ b, (Instr.checkKey b 10000 key (.int j n)).run P w = .ok () w := fun b => checkKey_int b 9999 hkd w
  have hlt : L.blk < w.heap.size := (hw.rng b L hL).1
  obtain ⟨q, h8, h9⟩ := findKey_ok (P := P) hkd hr h7 w
  cases r with
  | none =>
    cases q with
    | some qv => exact h9.elim
    | none =>
      replace h := R.bind_ok' h
      obtain ⟨z, h10, h⟩ := h
      replace h := R.bind_ok' h
      obtain ⟨s1, h11, h⟩ := h
      obtain ⟨rfl, rfl⟩ := okv_ok h
      obtain ⟨zv, hz1, hz2⟩ := zeroOf_ok (σ := σ) h10
      have hpost := Post.setObj (O := .map (ms.push { key := .int j n, val := zv, born := c }) (c + 1)) hw hb hL h11 ⟨_, heap_setObj_eq w _ _ hlt, by
        rw [Array.toList_push]
        exact hr.append ⟨_, [], rfl, rfl, rfl, hz2 ρ, rfl⟩⟩
      refine NSem.of_v ⟨.tuple #[zv, goInt c], _, ρ, ?_, ⟨#[zv, goInt c], rfl, zv, [goInt c], rfl, hz2 ρ, goInt c, [], rfl, ⟨rfl, rfl⟩, rfl⟩, hpost⟩
      simp only [Instr.mapEntry, hu, hke, Sem.run_bind, run_underlying ht, Result.andThen_ok, run_getMap hmm, hck, h8, hz1, run_setMap hmm, Sem.run_pure]
  | some rv =>
    cases q with
    | none => exact h9.elim
    | some qv =>
      obtain ⟨i, rv⟩ := rv
      obtain ⟨i', qv⟩ := qv
      obtain ⟨rfl, g4, x, g5, g6, g7⟩ := h9
      replace h := R.bind_ok' h
      obtain ⟨s1, h11, h⟩ := h
      obtain ⟨rfl, rfl⟩ := okv_ok h
      have hmi : ∃ m, ms[i]? = some m ∧ m.key = .int j n ∧ m.born = x.born := by
        obtain ⟨m, hm1, hm2, hm3, _⟩ := hr.get i x g5
        exact ⟨m, by rw [← Array.getElem?_toList]; exact hm1, by rw [hm2, g7], hm3⟩
      obtain ⟨m', hm1, hm2, hm3⟩ := hmi
      have hpost := Post.setObj (O := .map (ms.modify i fun e => { e with key := .int j n }) c) hw hb hL h11 ⟨_, heap_setObj_eq w _ _ hlt, by
        rw [Array.toList_modify]
        exact hr.modify i fun e m he hm hk hbn hvv => ⟨rfl, hbn, hvv⟩⟩
      refine NSem.of_v ⟨.tuple #[qv, goInt x.born], _, ρ, ?_, ⟨#[qv, goInt x.born], rfl, qv, [goInt x.born], rfl, g4, goInt x.born, [], rfl, ⟨by simp [g5, goInt], rfl⟩, rfl⟩, hpost⟩
      simp only [Instr.mapEntry, hu, hke, Sem.run_bind, run_underlying ht, Result.andThen_ok, run_getMap hmm, hck, h8, hm1, Option.map_some, Option.getD_some, hm2, keyStays, run_setMap hmm, Sem.run_pure, hm3]

theorem findIdx_array (ms : Array MapEntry) (p : MapEntry → Bool) : ms.findIdx? p = ms.toList.findIdx? p := by cases ms; simp

theorem findIdx_born {st : Int} : ∀ {es : List AEntry} {ms : List MapEntry}, ERels σ ρ es ms → es.findIdx? (fun e => (e.born : Int) == st) = ms.findIdx? (fun e => (e.born : Int) == st)
  | [], ms, h => by simp only [ERels] at h; subst h; rfl
  | e :: r, ms, ⟨m, ns, h, h2, h3, h4, h5⟩ => by
    subst h
    rw [List.findIdx?_cons, List.findIdx?_cons, h3, findIdx_born h5]

theorem entryStore_op {t : TypeId} {m st v : Operand} (hw : WRel σ N0 w0 ρ s w) (hm : EvOk σ ρ ev e m) (hs : EvOk σ ρ ev e st) (hv : EvOk σ ρ ev e v) (h : opEntryStore P ev m st v s = .ok (nx, s')) :
    NSem P σ N0 w0 (do Instr.entryStore t (e m) (e st) (e v); pure .skip) ρ s w nx s' := by
  unfold opEntryStore at h
  replace h := R.bind_ok' h
  obtain ⟨sa, h1, h⟩ := h
  replace h := R.bind_ok' h
  obtain ⟨⟨k, si⟩, h2, h⟩ := h
  replace h := R.bind_ok' h
  obtain ⟨va, h3, h⟩ := h
  replace h := R.bind_ok' h
  obtain ⟨ma, h5, h⟩ := h
  replace h := R.bind_ok' h
  obtain ⟨⟨b, es, c⟩, h6, h⟩ := h
  obtain ⟨L, ms, hL, hu, hb, hmm, hr⟩ := mapOf_ok hw h6 (hm _ h5)
  have hlt : L.blk < w.heap.size := (hw.rng b L hL).1
  have hst := asNatLit_ok h2 (hs _ h1)
  have hfi := findIdx_born (st := si) hr
  simp only [] at h
  cases hi : es.findIdx? (fun e => (e.born : Int) == si) with
  | none => rw [hi] at h; cases h
  | some i =>
    rw [hi] at h
    simp only [] at h
    replace h := R.bind_ok' h
    obtain ⟨s1, h11, h⟩ := h
    obtain ⟨rfl, rfl⟩ := okv_ok h
    have hpost := Post.setObj (O := .map (ms.modify i fun x => { x with val := e v }) c) hw hb hL h11 ⟨_, heap_setObj_eq w _ _ hlt, by
      rw [Array.toList_modify]
      exact hr.modify i fun x m he hm hk hbn hvv => ⟨hk, hbn, hv _ h3⟩⟩
    refine NSem.of_u ⟨_, ρ, ?_, hpost⟩
    have hfi' : ms.findIdx? (fun x => (x.born : Int) == si) = some i := by
      rw [← hi, hfi, findIdx_array]
    rw [hu, hst]
    simp only [Instr.entryStore, Sem.run_bind, Result.andThen_ok, run_getMap hmm, asInt, asIntOf, Sem.run_pure, hfi', run_setMap hmm]

/-! ### Ranging -/
theorem ERels.filter {p : AEntry → Bool} {q : MapEntry → Bool} : ∀ {es : List AEntry} {ms : List MapEntry}, ERels σ ρ es ms → (∀ (e : AEntry) (m : MapEntry), m.born = e.born → q m = p e) → ERels σ ρ (es.filter p) (ms.filter q)
  | [], ms, h, _ => by simp only [ERels] at h; subst h; rfl
  | e :: r, ms, ⟨m, ns, h, h2, h3, h4, h5⟩, hpq => by
    subst h
    rw [List.filter_cons, List.filter_cons, hpq e m h3]
    split
    · exact ⟨m, _, rfl, h2, h3, h4, ERels.filter h5 hpq⟩
    · exact ERels.filter h5 hpq

theorem ERels.all {p : AEntry → Bool} {q : MapEntry → Bool} : ∀ {es : List AEntry} {ms : List MapEntry}, ERels σ ρ es ms → (∀ (e : AEntry) (m : MapEntry), m.born = e.born → q m = p e) → ms.all q = es.all p
  | [], ms, h, _ => by simp only [ERels] at h; subst h; rfl
  | e :: r, ms, ⟨m, ns, h, h2, h3, h4, h5⟩, hpq => by
    subst h
    simp only [List.all_cons, hpq e m h3, ERels.all h5 hpq]

theorem ERels.find {st : Nat} : ∀ {es : List AEntry} {ms : List MapEntry} {x : AEntry}, ERels σ ρ es ms → es.find? (fun e => Nat.beq e.born st) = some x → ∃ m, ms.find? (fun m => m.born == st) = some m ∧ m.key = x.key ∧ VRel σ ρ x.val m.val
  | [], ms, x, h, hx => by simp at hx
  | e :: r, ms, x, ⟨m, ns, h, h2, h3, h4, h5⟩, hx => by
    subst h
    rw [List.find?_cons] at hx
    cases hq : Nat.beq e.born st with
    | true =>
      rw [hq] at hx
      cases hx
      have := Nat.eq_of_beq_eq_true hq
      exact ⟨m, by rw [List.find?_cons]; simp [h3, this], h2, h4⟩
    | false =>
      rw [hq] at hx
      obtain ⟨m', g1, g2⟩ := ERels.find h5 hx
      have hne : (m.born == st) = false := by
        rw [h3]
        cases hb : (e.born == st) with
        | false => rfl
        | true => have := eq_of_beq hb; subst this; simp at hq
      exact ⟨m', by rw [List.find?_cons, hne]; exact g1, g2⟩

theorem range_op {t : TypeId} {x : Operand} (hw : WRel σ N0 w0 ρ s w) (hf : Fresh ρ s.next s'.next) (hx : EvOk σ ρ ev e x) (h : opRange P ev t x s = .ok (nx, s')) :
    NSem P σ N0 w0 (do pure (.value (← Instr.range t (e x)))) ρ s w nx s' := by
  unfold opRange at h
  replace h := R.bind_ok' h
  obtain ⟨d, h1, h⟩ := h
  replace h := R.bind_ok' h
  obtain ⟨xa, h2, h⟩ := h
  have hxv := hx _ h2
  split at h
  · replace h := R.bind_ok' h
    obtain ⟨s1, h3, h⟩ := h
    obtain ⟨rfl, rfl⟩ := okv_ok h
    simp only [VRel] at hxv
    obtain ⟨ρ', h4, h5⟩ := Post.alloc (O := .mapIter none 0 #[] 0) hw h3 hf 0 fun ρ' he => ⟨rfl, none, by show (w.heap.push _)[w.heap.size]? = _; simp, trivial⟩
    refine NSem.of_v ⟨_, _, ρ', ?_, ⟨_, h4, rfl⟩, h5⟩
    simp [Instr.range, hxv.1, run_und h1]
  · rename_i m
    obtain ⟨L, hL, hu⟩ := hxv
    replace h := R.bind_ok' h
    obtain ⟨o, h3, h⟩ := h
    split at h
    · rename_i es c
      replace h := R.bind_ok' h
      obtain ⟨s1, h4, h⟩ := h
      obtain ⟨rfl, rfl⟩ := okv_ok h
      obtain ⟨ms, hm, hr⟩ := hw.heap _ _ (get_ok h3) L hL
      obtain ⟨ρ', h5, h6⟩ := Post.alloc (O := .mapIter (some L.blk) c #[] c) hw h4 hf 0 fun ρ' he => ⟨rfl, some L.blk, by show (w.heap.push _)[w.heap.size]? = _; simp, L, he _ _ hL, rfl⟩
      refine NSem.of_v ⟨_, _, ρ', ?_, ⟨_, h5, rfl⟩, h6⟩
      simp [Instr.range, hu, run_und h1, run_getMap hm]
    · cases h
  · cases h

theorem entry_op {it : Operand} (hw : WRel σ N0 w0 ρ s w) (hx : EvOk σ ρ ev e it) (h : opEntry P ev it s = .ok (nx, s')) :
    NSem P σ N0 w0 (do pure (.value (← Instr.entry (e it)))) ρ s w nx s' := by
  unfold opEntry at h
  replace h := R.bind_ok' h
  obtain ⟨xa, h1, h⟩ := h
  replace h := R.bind_ok' h
  obtain ⟨⟨r, o⟩, h2, h⟩ := h
  replace h := R.bind_ok' h
  obtain ⟨_, h3, h⟩ := h
  replace h := R.bind_ok' h
  obtain ⟨ob, h4, h⟩ := h
  have h3 := Nat.eq_of_beq_eq_true (guardR_ok h3)
  obtain ⟨L, hL, hp⟩ := asPtr_ok h2 (hx _ h1)
  split at h
  · rename_i m sn seen last
    replace h := R.bind_ok' h
    obtain ⟨mo, h5, h⟩ := h
    split at h
    · rename_i es c
      replace h := R.bind_ok' h
      obtain ⟨_, h6, h⟩ := h
      replace h := R.bind_ok' h
      obtain ⟨st, h7, h⟩ := h
      have h6 := Nat.eq_of_beq_eq_true (guardR_ok h6)
      cases hq : es.find? (fun e => Nat.beq e.born st) with
      | none => rw [hq] at h; cases h
      | some x =>
        rw [hq] at h
        replace h := R.bind_ok' h
        obtain ⟨_, h8, h⟩ := h
        obtain ⟨rfl, rfl⟩ := okv_ok h
        obtain ⟨hi0, m', hi1, hi2⟩ := hw.heap _ _ (get_ok h4) L hL
        cases m' with
        | none => exact hi2.elim
        | some mc =>
          obtain ⟨M, hM, rfl⟩ := hi2
          obtain ⟨ms, hm, hr⟩ := hw.heap _ _ (get_ok h5) M hM
          obtain ⟨me, g1, g2, g3⟩ := hr.find hq
          have hback : seen.toArray.back? = some st := by have := R.of_ok h7; simpa using this
          have hfind : ms.find? (fun m => m.born == st) = some me := by rw [← g1]; cases ms; simp
          refine NSem.of_v (VSem.pure hw (u := .tuple #[me.key, me.val]) ?_ ?_)
          · rw [hp, hi0, h3]
            simp only [Instr.entry, Sem.run_bind, Nat.add_zero, run_getIter hi1, Result.andThen_ok, hback, run_getMap hm, h6, hfind]
            simp
          · refine ⟨#[me.key, me.val], rfl, me.key, [me.val], rfl, ⟨g2, guardR_ok h8⟩, me.val, [], rfl, g3, rfl⟩
    · cases h
  · cases h

theorem WRel.drawn (h : WRel σ N0 w0 ρ s w) (d : Nat) : WRel σ N0 w0 ρ s { w with drawn := d } :=
  ⟨⟨h.base.os, h.base.tape, h.base.output, h.base.size, h.base.block⟩, h.n0, h.bnd, h.inj, h.dom, h.rng, fun b o hb L hL => (h.heap b o hb L hL).of_block rfl⟩

theorem Post.drawn {ρ' : Ren} {w' : World} {d : Nat} (h : Post σ N0 w0 ρ s { w with drawn := d } ρ' s' w') : Post σ N0 w0 ρ s w ρ' s' w' :=
  ⟨h.ext, h.new, h.next, h.ro, h.low, h.same, h.live, h.wrel, h.frame, h.size⟩

end
end Go.Am
