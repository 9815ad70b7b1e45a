/-
  The abstract machine's operations against the model's: slices.
-/
import Derived.Test.YtdhnfhhmacjajaaJ1
import Derived.Maps.RangeRun

namespace Go.Am
open Go Go.RowKit
set_option linter.unusedVariables false
set_option linter.unusedSimpArgs false

section
variable {σ : Syms} {N0 : Nat} {w0 : World} {P : Program} {ev : Operand → R AVal} {e : Operand → Value} {ρ : Ren} {s s' : AState} {w : World} {nx : ANext}

def OptRel (σ : Syms) (ρ : Ren) : Option AVal → Option Value → Prop
  | none, none => True
  | some a, some v => VRel σ ρ a v
  | _, _ => False

theorem optEv_ok {x : Option Operand} {a : Option AVal} (hx : ∀ y, x = some y → EvOk σ ρ ev e y) (h : optEv ev x = .ok a) : OptRel σ ρ a (x.map e) := by
  cases x with
  | none => cases h; trivial
  | some y =>
    unfold optEv at h
    replace h := R.bind_ok' h
    obtain ⟨v, h1, h⟩ := h
    cases h
    exact hx y rfl v h1

theorem boundA_ok {a : AVal} {y y' i : Nat} {u : Value} {code : BoundsCode} (h : boundA a y = .ok i) (hv : VRel σ ρ a u) (hy : y ≤ y') (w : World) : (Instr.sliceBound u y' code).run P w = .ok i w ∧ i ≤ y := by
  unfold boundA at h
  replace h := R.bind_ok' h
  obtain ⟨⟨k, n⟩, h1, h⟩ := h
  have := asNatLit_ok h1 hv
  subst this
  rcases n with m | m
  · simp only [] at h
    cases hq : Nat.ble m y with
    | false => rw [hq] at h; cases h
    | true =>
      rw [hq, cond_true] at h
      cases h
      have hle := Nat.le_of_ble_eq_true hq
      have hc : 0 ≤ (Int.ofNat i) ∧ (Int.ofNat i) ≤ (y' : Int) := by simp only [Int.ofNat_eq_natCast]; omega
      refine ⟨?_, hle⟩
      simp only [Instr.sliceBound, asIntOf, Sem.run_bind, Sem.run_pure, Result.andThen_ok]
      rw [if_pos hc]
      rfl
  · cases h

def lowSem (lo' : Option Value) (h : Nat) (code : BoundsCode) (x y : Nat) : Sem (Nat × Nat × Nat) := match lo' with
  | some v => do let l ← Instr.sliceBound v h code; pure (l, x, y)
  | none => do let l ← pure 0; pure (l, x, y)

theorem boundsA_ok {len cap cap' l0 h0 m0 : Nat} {lo hi mx : Option AVal} {lo' hi' mx' : Option Value} {b : Bool} (hb : boundsA len cap lo hi mx = .ok (l0, h0, m0)) (hcap : cap ≤ cap')
    (hl : OptRel σ ρ lo lo') (hh : OptRel σ ρ hi hi') (hm : OptRel σ ρ mx mx') (w : World) :
    (Instr.sliceBounds b len cap' lo' hi' mx').run P w = .ok (l0, h0, if mx.isNone then cap' else m0) w ∧ l0 ≤ h0 ∧ m0 ≤ cap ∧ (mx.isNone = true → m0 = cap) ∧ (hi.isSome = true → h0 ≤ m0) ∧ (hi.isNone = true → h0 = len) := by
  unfold boundsA at hb
  replace hb := R.bind_ok' hb
  obtain ⟨m, h1, hb⟩ := hb
  replace hb := R.bind_ok' hb
  obtain ⟨h, h3, hb⟩ := hb
  replace hb := R.bind_ok' hb
  obtain ⟨l, h4, hb⟩ := hb
  cases hb
  unfold optBound at h1 h4
  unfold hiBound at h3
  have hlo : ∀ (code : BoundsCode) (x y : Nat), (lowSem lo' h0 code x y).run P w = .ok (l0, x, y) w ∧ l0 ≤ h0 := fun code x y => by
    cases lo with
    | none => cases lo' with
      | none => cases h4; exact ⟨rfl, Nat.zero_le _⟩
      | some v => exact absurd hl (by simp [OptRel])
    | some a => cases lo' with
      | none => exact absurd hl (by simp [OptRel])
      | some v =>
        have := fun code => boundA_ok (P := P) (code := code) h4 hl (Nat.le_refl _) w
        exact ⟨by simp [lowSem, (this code).1], (this code).2⟩
  unfold Instr.sliceBounds
  cases mx with
  | none =>
    cases mx' with
    | some v => exact absurd hm (by simp [OptRel])
    | none =>
      cases h1
      cases hi with
      | none => cases hi' with
        | some v => exact absurd hh (by simp [OptRel])
        | none =>
          cases h3
          have := hlo .sliceB
          refine ⟨?_, (this 0 0).2, Nat.le_refl _, fun _ => rfl, fun hx => by simp at hx, fun _ => rfl⟩
          simp only [Sem.run_bind, Sem.run_pure, Result.andThen_ok, Option.isSome_none, Bool.false_eq_true, if_false, Option.isNone_none, if_true]
          exact (this _ _).1
      | some a => cases hi' with
        | none => exact absurd hh (by simp [OptRel])
        | some v =>
          have := hlo .sliceB
          have hb2 := fun code => boundA_ok (P := P) (code := code) h3 hh hcap w
          refine ⟨?_, (this 0 0).2, Nat.le_refl _, fun _ => rfl, fun _ => (hb2 .sliceB).2, fun hx => by simp at hx⟩
          simp only [Sem.run_bind, Sem.run_pure, Result.andThen_ok, Option.isSome_none, Bool.false_eq_true, if_false, (hb2 _).1, Option.isNone_none, if_true]
          exact (this _ _).1
  | some c =>
    cases mx' with
    | none => exact absurd hm (by simp [OptRel])
    | some v =>
      have hb1 := fun code => boundA_ok (P := P) (code := code) h1 hm hcap w
      cases hi with
      | none => cases h3
      | some a => cases hi' with
        | none => exact absurd hh (by simp [OptRel])
        | some v' =>
          have := hlo .slice3C
          have hb2 := fun code => boundA_ok (P := P) (code := code) h3 hh (Nat.le_refl _) w
          refine ⟨?_, (this 0 0).2, (hb1 .sliceB).2, fun hx => by simp at hx, fun _ => (hb2 .sliceB).2, fun hx => by simp at hx⟩
          simp only [Sem.run_bind, Result.andThen_ok, Option.isSome_some, if_true, (hb1 _).1, (hb2 _).1, Option.isNone_some, Bool.false_eq_true, if_false]
          exact (this _ _).1

theorem cond_beq {α : Type} (m l : Nat) (x y : α) : (bif Nat.beq m l then x else y) = if m = l then x else y := by
  by_cases h : m = l
  · subst h; simp
  · have : Nat.beq m l = false := by cases hq : Nat.beq m l with | false => rfl | true => exact absurd (Nat.eq_of_beq_eq_true hq) h
    simp [this, h]

theorem sliceOp_ok {t : TypeId} {x r : AVal} {lo hi mx : Option AVal} {lo' hi' mx' : Option Value} {u : Value} (h : sliceOp P t x lo hi mx = .ok r) (hx : VRel σ ρ x u)
    (hl : OptRel σ ρ lo lo') (hh : OptRel σ ρ hi hi') (hm : OptRel σ ρ mx mx') (w : World) : ∃ z, (Instr.sliceAt t u lo' hi' mx').run P w = .ok z w ∧ VRel σ ρ r z := by
  unfold sliceOp at h
  replace h := R.bind_ok' h
  obtain ⟨d, h1, h⟩ := h
  split at h
  · rename_i el
    replace h := R.bind_ok' h
    obtain ⟨esz, h2, h⟩ := h
    split at h
    · rename_i n c
      replace h := R.bind_ok' h
      obtain ⟨⟨l, hg, m⟩, h3, h⟩ := h
      cases h
      have hb := boundsA_ok (P := P) (b := true) h3 (Nat.le_refl _) hl hh hm w
      have hu : u = .slice none n c := hx.1
      subst hu
      refine ⟨.slice none (hg - l) ((if mx.isNone then c else m) - l), ?_, ?_⟩
      · simp only [Instr.sliceAt, Instr.slice, Sem.run_bind, run_und h1, Result.andThen_ok, hb.1, run_sz h2, Sem.run_pure]
        simp
      · refine ⟨?_, rfl⟩
        cases hq : mx.isNone
        · simp
        · rw [hb.2.2.2.1 hq]; simp
    · rename_i b o n c
      replace h := R.bind_ok' h
      obtain ⟨⟨l, hg, m⟩, h3, h⟩ := h
      cases h
      have hb := boundsA_ok (P := P) (b := true) h3 (Nat.le_refl _) hl hh hm w
      obtain ⟨L, hL, rfl⟩ := hx
      have hm' : (if mx.isNone then c else m) = m := by
        cases hq : mx.isNone
        · simp
        · rw [hb.2.2.2.1 hq]; simp
      refine ⟨.slice (some ⟨L.blk, L.off + (if m = l then o else o + l * esz), none⟩) (hg - l) (m - l), ?_, ?_⟩
      · simp only [Instr.sliceAt, Instr.slice, Sem.run_bind, run_und h1, Result.andThen_ok, hb.1, run_sz h2, Sem.run_pure, hm']
        split <;> simp [Addr.add_mid, Nat.add_assoc]
      · simp only [cond_beq]
        exact ⟨L, hL, rfl⟩
    · rename_i b o n g
      replace h := R.bind_ok' h
      obtain ⟨_, h3, h⟩ := h
      have h3 := Nat.eq_of_beq_eq_true (guardR_ok h3)
      subst h3
      replace h := R.bind_ok' h
      obtain ⟨⟨l, hg, m⟩, h4, h⟩ := h
      obtain ⟨L, k, hL, rfl, hk1, hk2, hk3⟩ := hx
      have hb := boundsA_ok (P := P) (b := true) h4 hk1 hl hh hm w
      rcases mx with _ | mxv
      rotate_left
      · cases h
        simp only [Option.isNone_some, Bool.false_eq_true, if_false] at hb
        refine ⟨.slice (some ⟨L.blk, L.off + (if m = l then o else o + l * g), none⟩) (hg - l) (m - l), ?_, ?_⟩
        · simp only [Instr.sliceAt, Instr.slice, Sem.run_bind, run_und h1, Result.andThen_ok, hb.1, run_sz h2, Sem.run_pure]
          split <;> simp [Addr.add_mid, Nat.add_assoc]
        · simp only [cond_beq]
          exact ⟨L, hL, rfl⟩
      · replace h := R.bind_ok' h
        obtain ⟨_, h5, h⟩ := h
        cases h
        have h5 := guardR_ok h5
        simp only [Bool.or_eq_true] at h5
        simp only [Option.isNone_none, if_true] at hb
        have hmn : m = n := hb.2.2.2.1 trivial
        have hhn : hg ≤ n := by
          cases hq : hi with
          | none => rw [hb.2.2.2.2.2 (by rw [hq]; rfl)]; exact Nat.le_refl _
          | some a => have := hb.2.2.2.2.1 (by rw [hq]; rfl); omega
        have hlh := hb.2.1
        refine ⟨.slice (some ⟨L.blk, L.off + (o + l * g), none⟩) (hg - l) (k - l), ?_, ⟨L, k - l, hL, rfl, by omega, hk2, ?_⟩⟩
        · simp only [Instr.sliceAt, Instr.slice, Sem.run_bind, run_und h1, Result.andThen_ok, hb.1, run_sz h2, Sem.run_pure]
          by_cases hkl : k = l
          · have hl0 : l = 0 := by
              rcases h5 with h5 | h5
              · have := Nat.le_of_ble_eq_true h5; omega
              · exact Nat.eq_of_beq_eq_true h5
            rw [if_pos hkl]; simp [hl0]
          · rw [if_neg hkl]; simp [Addr.add_mid, Nat.add_assoc]
        · have : l * g + (k - l) * g = k * g := by rw [← Nat.add_mul]; congr 1; omega
          omega
    · cases h
  · rename_i n el
    replace h := R.bind_ok' h
    obtain ⟨esz, h2, h⟩ := h
    split at h
    · rename_i b o
      replace h := R.bind_ok' h
      obtain ⟨⟨l, hg, m⟩, h3, h⟩ := h
      cases h
      have hb := boundsA_ok (P := P) (b := false) h3 (Nat.le_refl _) hl hh hm w
      obtain ⟨L, hL, rfl⟩ := hx
      have hm' : (if mx.isNone then n else m) = m := by
        cases hq : mx.isNone
        · simp
        · rw [hb.2.2.2.1 hq]; simp
      refine ⟨.slice (some ⟨L.blk, L.off + (if m = l then o else o + l * esz), none⟩) (hg - l) (m - l), ?_, ?_⟩
      · simp only [Instr.sliceAt, Sem.run_bind, run_und h1, Result.andThen_ok, Instr.sureAddr, hb.1, run_sz h2, Sem.run_pure, hm']
        split <;> simp [Addr.add_mid, Nat.add_assoc]
      · simp only [cond_beq]
        exact ⟨L, hL, rfl⟩
    · cases h
  · cases h

theorem slice_op {t : TypeId} {x : Operand} {lo hi mx : Option Operand} (hw : WRel σ N0 w0 ρ s w) (hx : EvOk σ ρ ev e x) (hl : ∀ y, lo = some y → EvOk σ ρ ev e y) (hh : ∀ y, hi = some y → EvOk σ ρ ev e y) (hm : ∀ y, mx = some y → EvOk σ ρ ev e y)
    (h : opSlice P ev t x lo hi mx s = .ok (nx, s')) : NSem P σ N0 w0 (do pure (.value (← Instr.sliceAt t (e x) (lo.map e) (hi.map e) (mx.map e)))) ρ s w nx s' := by
  unfold opSlice at h
  replace h := R.bind_ok' h
  obtain ⟨v, h1, h⟩ := h
  replace h := R.bind_ok' h
  obtain ⟨lo', h2, h⟩ := h
  replace h := R.bind_ok' h
  obtain ⟨hi', h3, h⟩ := h
  replace h := R.bind_ok' h
  obtain ⟨mx', h4, h⟩ := h
  replace h := R.bind_ok' h
  obtain ⟨r, h5, h⟩ := h
  obtain ⟨rfl, rfl⟩ := okv_ok h
  obtain ⟨z, h6, h7⟩ := sliceOp_ok h5 (hx v h1) (optEv_ok hl h2) (optEv_ok hh h3) (optEv_ok hm h4) w
  exact NSem.of_v (VSem.pure hw h6 h7)

end
end Go.Am


/-
  The abstract machine's operations against the model's: maps.
-/
namespace Go.Am
open Go Go.RowKit
set_option linter.unusedVariables false
set_option linter.unusedSimpArgs false

section
variable {σ : Syms} {N0 : Nat} {w0 : World} {P : Program} {ev : Operand → R AVal} {e : Operand → Value} {ρ : Ren} {s s' : AState} {w : World} {nx : ANext}

theorem ERels.length : ∀ {es : List AEntry} {ms : List MapEntry}, ERels σ ρ es ms → ms.length = es.length
  | [], ms, h => by simp only [ERels] at h; subst h; rfl
  | e :: r, ms, ⟨m, ns, h, _, _, _, h5⟩ => by subst h; simp [ERels.length h5]

theorem ERels.get : ∀ {es : List AEntry} {ms : List MapEntry}, ERels σ ρ es ms → ∀ (i : Nat) (e : AEntry), es[i]? = some e → ∃ m, ms[i]? = some m ∧ m.key = e.key ∧ m.born = e.born ∧ VRel σ ρ e.val m.val
  | [], ms, h, i, e, hi => by simp at hi
  | e :: r, ms, ⟨m, ns, h, h2, h3, h4, h5⟩, i, e', hi => by
    subst h
    cases i with
    | zero => simp at hi; subst hi; exact ⟨m, rfl, h2, h3, h4⟩
    | succ i => simpa using ERels.get h5 i e' (by simpa using hi)

theorem ERels.append : ∀ {es es' : List AEntry} {ms ms' : List MapEntry}, ERels σ ρ es ms → ERels σ ρ es' ms' → ERels σ ρ (es ++ es') (ms ++ ms')
  | [], _, ms, _, h, h' => by simp only [ERels] at h; subst h; exact h'
  | e :: r, _, ms, _, ⟨m, ns, h, h2, h3, h4, h5⟩, h' => by subst h; exact ⟨m, ns ++ _, rfl, h2, h3, h4, ERels.append h5 h'⟩

theorem ERels.modify {f : AEntry → AEntry} {g : MapEntry → MapEntry} : ∀ {es : List AEntry} {ms : List MapEntry} (i : Nat), ERels σ ρ es ms →
    (∀ (e : AEntry) (m : MapEntry), es[i]? = some e → ms[i]? = some m → m.key = e.key → m.born = e.born → VRel σ ρ e.val m.val → (g m).key = (f e).key ∧ (g m).born = (f e).born ∧ VRel σ ρ (f e).val (g m).val) → ERels σ ρ (es.modify i f) (ms.modify i g)
  | [], ms, i, h, _ => by simp only [ERels] at h; subst h; simp [ERels]
  | e :: r, ms, i, ⟨m, ns, h, h2, h3, h4, h5⟩, hf => by
    subst h
    cases i with
    | zero =>
      obtain ⟨k1, k2, k3⟩ := hf e m rfl rfl h2 h3 h4
      exact ⟨g m, ns, rfl, k1, k2, k3, h5⟩
    | succ i =>
      exact ⟨m, ns.modify i g, rfl, h2, h3, h4, ERels.modify i h5 fun e' m' he hm => hf e' m' (by simpa using he) (by simpa using hm)⟩

theorem ERels.eraseIdx : ∀ {es : List AEntry} {ms : List MapEntry} (i : Nat), ERels σ ρ es ms → ERels σ ρ (es.eraseIdx i) (ms.eraseIdx i)
  | [], ms, i, h => by simp only [ERels] at h; subst h; simp [ERels]
  | e :: r, ms, i, ⟨m, ns, h, h2, h3, h4, h5⟩ => by
    subst h
    cases i with
    | zero => exact h5
    | succ i => exact ⟨m, ns.eraseIdx i, rfl, h2, h3, h4, ERels.eraseIdx i h5⟩

theorem intKey_ok {t e : TypeId} (h : intKey P t = .ok e) : ∃ k kd, P.underlying t = some (.map k e) ∧ P.underlying k = some (.int kd) := by
  unfold intKey at h
  replace h := R.bind_ok' h
  obtain ⟨d, h1, h⟩ := h
  split at h
  · rename_i k e'
    replace h := R.bind_ok' h
    obtain ⟨d, h2, h⟩ := h
    split at h
    · rename_i kd
      cases h
      exact ⟨k, kd, und_ok h1, und_ok h2⟩
    · cases h
  · cases h

theorem asKey_ok {a : AVal} {k u : Value} (h : asKey a = .ok k) (hv : VRel σ ρ a u) : u = k ∧ ∃ j n, k = .int j n := by
  unfold asKey at h
  split at h
  · cases h; exact ⟨hv.1, _, _, rfl⟩
  · cases h

theorem keyIs_ok {j : IntKind} {n : Int} {k' : Value} {b : Bool} (h : keyIs (.int j n) k' = .ok b) : ∃ n', k' = .int j n' ∧ b = (n == n') := by
  unfold keyIs at h
  split at h
  · rename_i j1 a j2 a' h1
    cases h1
    cases hq : decide (j = j2) with
    | false => rw [hq] at h; cases h
    | true =>
      rw [hq, cond_true] at h
      cases h
      have := of_decide_eq_true hq
      subst this
      exact ⟨_, rfl, rfl⟩
  · cases h

theorem findA_ok {kd j : IntKind} {n : Int} : ∀ {es : List AEntry} {ms : List MapEntry} {i : Nat} {r : Option (Nat × AVal)}, ERels σ ρ es ms → findA (.int j n) es i = .ok r →
    ∃ q, Instr.findNow (.int kd) (.int j n) ms i = some q ∧ (match r, q with
      | none, none => True
      | some (a, v), some (b, u) => a = b ∧ VRel σ ρ v u ∧ ∃ x, i ≤ a ∧ es[a - i]? = some x ∧ x.val = v ∧ ∃ m, x.key = .int j m ∧ m = n
      | _, _ => False)
  | [], ms, i, r, h, hf => by
    simp only [ERels] at h; subst h
    cases hf
    exact ⟨none, rfl, trivial⟩
  | x :: es, ms, i, r, ⟨m, ns, h, h2, h3, h4, h5⟩, hf => by
    subst h
    unfold findA at hf
    replace hf := R.bind_ok' hf
    obtain ⟨b, hb, hf⟩ := hf
    obtain ⟨n', hk, hbn⟩ := keyIs_ok hb
    unfold Instr.findNow
    have hs : Instr.sameNow (.int kd) (.int j n) m.key = some (n == n') := by rw [h2, hk]; simp [Instr.sameNow]
    rw [hs]
    cases hq : (n == n') with
    | true =>
      rw [hbn, hq, cond_true] at hf
      cases hf
      have hnn : n = n' := by simpa using hq
      exact ⟨some (i, m.val), rfl, rfl, h4, x, Nat.le_refl _, by simp, rfl, n', hk, hnn.symm⟩
    | false =>
      rw [hbn, hq, cond_false] at hf
      obtain ⟨q, h6, h7⟩ := findA_ok (kd := kd) h5 hf
      refine ⟨q, h6, ?_⟩
      cases r with
      | none => cases q <;> exact h7
      | some p => cases q with
        | none => exact h7
        | some p' =>
          obtain ⟨k1, k2, y, k3, k4, k5⟩ := h7
          refine ⟨k1, k2, y, by omega, ?_, k5⟩
          rw [show p.1 - i = (p.1 - (i + 1)) + 1 by omega, List.getElem?_cons_succ]
          exact k4

theorem checkKey_int {t : TypeId} {kd j : IntKind} {n : Int} (b : Bool) (d : Nat) (ht : P.underlying t = some (.int kd)) (w : World) : (Instr.checkKey b (d + 1) t (.int j n)).run P w = .ok () w := by
  unfold Instr.checkKey
  rw [Sem.run_bind, run_underlying ht, Result.andThen_ok]
  rfl

theorem findKey_ok {t : TypeId} {kd j : IntKind} {n : Int} {es : List AEntry} {ms : List MapEntry} {r : Option (Nat × AVal)} (ht : P.underlying t = some (.int kd)) (h : ERels σ ρ es ms) (hf : findA (.int j n) es 0 = .ok r) (w : World) :
    ∃ q, (Instr.findKey t (.int j n) ms).run P w = .ok q w ∧ (match r, q with
      | none, none => True
      | some (a, v), some (b, u) => a = b ∧ VRel σ ρ v u ∧ ∃ x, es[a]? = some x ∧ x.val = v ∧ x.key = .int j n
      | _, _ => False) := by
  obtain ⟨q, h1, h2⟩ := findA_ok (kd := kd) h hf
  refine ⟨q, ?_, ?_⟩
  · unfold Instr.findKey
    rw [Sem.run_bind, run_underlying ht, Result.andThen_ok, h1]
    rfl
  · cases r with
    | none => cases q <;> exact h2
    | some p => cases q with
      | none => exact h2
      | some p' =>
        obtain ⟨k1, k2, y, k3, k4, k5, m, k6, k7⟩ := h2
        exact ⟨k1, k2, y, by simpa using k4, k5, by rw [k6, k7]⟩

theorem mapOf_ok {a : AVal} {u : Value} {b : Nat} {es : List AEntry} {c : Nat} (hw : WRel σ N0 w0 ρ s w) (h : mapOf s a = .ok (b, es, c)) (hv : VRel σ ρ a u) :
    ∃ L ms, ρ b = some L ∧ u = .map (some L.blk) ∧ s.heap.get b = some (.map es c) ∧ w.heap[L.blk]? = some (.map ms c) ∧ ERels σ ρ es ms.toList := by
  unfold mapOf at h
  split at h
  · rename_i b'
    replace h := R.bind_ok' h
    obtain ⟨o, h1, h⟩ := h
    split at h
    · cases h
      obtain ⟨L, hL, hu⟩ := hv
      have hb := get_ok h1
      obtain ⟨ms, h2, h3⟩ := hw.heap _ _ hb L hL
      exact ⟨L, ms, hL, hu, hb, h2, h3⟩
    · cases h
  · cases h

theorem run_getMap {r : Nat} {ms : Array MapEntry} {c : Nat} (h : w.heap[r]? = some (.map ms c)) : (getObj r).run P w = .ok (.map ms c) w := by
  simp [getObj, Sem.run, h]

theorem run_getIter {r : Nat} {m : Option Nat} {a : Nat} {l : Array Nat} {k : Nat} (h : w.heap[r]? = some (.mapIter m a l k)) : (getObj r).run P w = .ok (.mapIter m a l k) w := by
  simp [getObj, Sem.run, h]

def World.setObj (w : World) (r : Nat) (o : Obj) : World := { w with heap := w.heap.setIfInBounds r o }

theorem run_setMap {r : Nat} {ms : Array MapEntry} {c : Nat} (h : w.heap[r]? = some (.map ms c)) (o : Obj) : (setObj r o).run P w = .ok () (World.setObj w r o) := by
  simp [setObj, Sem.run, h, World.setObj]

theorem run_setIter {r : Nat} {m : Option Nat} {a : Nat} {l : Array Nat} {k : Nat} (h : w.heap[r]? = some (.mapIter m a l k)) (o : Obj) : (setObj r o).run P w = .ok () (World.setObj w r o) := by
  simp [setObj, Sem.run, h, World.setObj]

theorem heap_setObj_ne (w : World) (r : Nat) (o : Obj) (c : Nat) (h : c ≠ r) : (World.setObj w r o).heap[c]? = w.heap[c]? := by
  simp only [World.setObj]
  rw [Array.getElem?_setIfInBounds_ne (Ne.symm h)]

theorem heap_setObj_eq (w : World) (r : Nat) (o : Obj) (h : r < w.heap.size) : (World.setObj w r o).heap[r]? = some o := by
  simp [World.setObj, h]

theorem Below.setObj' {B : Nat} {w : World} {r : Nat} {o : Obj} (h : B ≤ r) : Below B w (World.setObj w r o) :=
  ⟨rfl, rfl, rfl, by simp [World.setObj], fun k hk => heap_setObj_ne w r o k (by omega)⟩

/-- A map or an iterator of the run's own is turned. -/
theorem Post.setObj {b : Nat} {o o' : AObj} {O : Obj} {L : Loc} (hw : WRel σ N0 w0 ρ s w) (hb : s.heap.get b = some o) (hL : ρ b = some L) (h : s.write b o' = .ok s') (ho : ORel σ ρ L true (World.setObj w L.blk O) o') :
    Post σ N0 w0 ρ s w ρ s' (World.setObj w L.blk O) := by
  have hro : s.ro ≤ b := (write_ok (by have := hw.dom b (by rw [hb]; simp); have := hw.bnd; omega) h).1
  exact Post.write hw h (by rw [hb]; simp) hL (Below.setObj' ((hw.rng b L hL).2.1 hro)) (by simp [World.setObj]) (fun c hc => heap_setObj_ne w L.blk O c hc) ho

theorem lookup_op {t : TypeId} {x k : Operand} {ok : Bool} (hw : WRel σ N0 w0 ρ s w) (hx : EvOk σ ρ ev e x) (hk : EvOk σ ρ ev e k) (h : opLookup P ev t x k ok s = .ok (nx, s')) :
    NSem P σ N0 w0 (do pure (.value (← Instr.lookup t (e x) (e k) ok))) ρ s w nx s' := by
  unfold opLookup at h
  replace h := R.bind_ok' h
  obtain ⟨el, h1, h⟩ := h
  replace h := R.bind_ok' h
  obtain ⟨ka, h2, h⟩ := h
  replace h := R.bind_ok' h
  obtain ⟨kv, h3, h⟩ := h
  replace h := R.bind_ok' h
  obtain ⟨xa, h4, h⟩ := h
  replace h := R.bind_ok' h
  obtain ⟨r, h5, h⟩ := h
  replace h := R.bind_ok' h
  obtain ⟨p, h6, h⟩ := h
  obtain ⟨rfl, rfl⟩ := okv_ok h
  clear h
  obtain ⟨key, kd, ht, hkd⟩ := intKey_ok h1
  obtain ⟨hke, j, n, rfl⟩ := asKey_ok h3 (hk _ h2)
  have hxv := hx _ h4
  have hck : ∀ b, (Instr.checkKey b 10000 key (.int j n)).run P w = .ok () w := fun b => checkKey_int b 9999 hkd w
  have fin : ∀ (u : Value), VRel σ ρ p.1 u → VRel σ ρ (bif ok then .tup [p.1, .lit (.bool p.2)] else p.1) (if ok then .tuple #[u, .bool p.2] else u) := fun u hu2 => by
    cases ok
    · exact hu2
    · exact ⟨#[u, .bool p.2], rfl, u, [.bool p.2], rfl, hu2, .bool p.2, [], rfl, ⟨rfl, rfl⟩, rfl⟩
  unfold lookIn at h5
  split at h5
  · cases h5
    simp only [VRel] at hxv
    have hfk : (Instr.findKey key (.int j n) []).run P w = .ok none w := by
      unfold Instr.findKey
      rw [Sem.run_bind, run_underlying hkd, Result.andThen_ok]
      rfl
    unfold lookVal at h6
    replace h6 := R.bind_ok' h6
    obtain ⟨z, hz, h6⟩ := h6
    cases h6
    obtain ⟨zv, hz1, hz2⟩ := zeroOf_ok (σ := σ) hz
    refine NSem.of_v (VSem.pure hw (u := if ok then .tuple #[zv, .bool false] else zv) ?_ (fin zv (hz2 ρ)))
    simp only [Instr.lookup, hke, Sem.run_bind, run_underlying ht, Result.andThen_ok, hxv.1, Sem.run_pure, hck, hfk, hz1]
  · replace h5 := R.bind_ok' h5
    obtain ⟨⟨b, es, c⟩, h7, h5⟩ := h5
    obtain ⟨L, ms, hL, hu, hb, hm, hr⟩ := mapOf_ok hw h7 hxv
    obtain ⟨q, h8, h9⟩ := findKey_ok (P := P) hkd hr h5 w
    cases r with
    | none =>
      cases q with
      | some qv => exact h9.elim
      | none =>
        unfold lookVal at h6
        replace h6 := R.bind_ok' h6
        obtain ⟨z, hz, h6⟩ := h6
        cases h6
        obtain ⟨zv, hz1, hz2⟩ := zeroOf_ok (σ := σ) hz
        refine NSem.of_v (VSem.pure hw (u := if ok then .tuple #[zv, .bool false] else zv) ?_ (fin zv (hz2 ρ)))
        simp only [Instr.lookup, hke, Sem.run_bind, run_underlying ht, Result.andThen_ok, hu, Sem.run_pure, run_getMap hm, hck, h8, hz1]
    | some rv =>
      cases q with
      | none => exact h9.elim
      | some qv =>
        cases h6
        refine NSem.of_v (VSem.pure hw (u := if ok then .tuple #[qv.2, .bool true] else qv.2) ?_ (fin qv.2 h9.2.1))
        simp only [Instr.lookup, hke, Sem.run_bind, run_underlying ht, Result.andThen_ok, hu, Sem.run_pure, run_getMap hm, hck, h8]

theorem sameBits_int (d : Nat) (j : IntKind) (n : Int) : Instr.sameBits d (.int j n) (.int j n) = true := by
  unfold Instr.sameBits; simp

theorem keyStays (j : IntKind) (n : Int) : (Instr.keyThatStays (.int j n) (.int j n)).run P w = .ok (.int j n) w := by
  unfold Instr.keyThatStays
  rw [sameBits_int]
  rfl

theorem mapPut_ok {key : TypeId} {kd j : IntKind} {n : Int} {b : Nat} {es : List AEntry} {c : Nat} {v : AVal} {u : Value} {L : Loc} {ms : Array MapEntry} {t el : TypeId}
    (hw : WRel σ N0 w0 ρ s w) (ht : P.underlying t = some (.map key el)) (hkd : P.underlying key = some (.int kd)) (hL : ρ b = some L) (hb : s.heap.get b = some (.map es c)) (hm : w.heap[L.blk]? = some (.map ms c)) (hr : ERels σ ρ es ms.toList)
    (h : mapPut s b es c (.int j n) v = .ok s') (hv : VRel σ ρ v u) : ∃ w', (Instr.mapUpdate t (.map (some L.blk)) (.int j n) u).run P w = .ok () w' ∧ Post σ N0 w0 ρ s w ρ s' w' := by
  have hck : ∀ b, (Instr.checkKey b 10000 key (.int j n)).run P w = .ok () w := fun b => checkKey_int b 9999 hkd w
  have hlt : L.blk < w.heap.size := (hw.rng b L hL).1
  unfold mapPut at h
  replace h := R.bind_ok' h
  obtain ⟨r, h1, h⟩ := h
  obtain ⟨q, h2, h3⟩ := findKey_ok (P := P) hkd hr h1 w
  cases r with
  | none =>
    cases q with
    | some qv => exact h3.elim
    | none =>
      have hpost := Post.setObj (O := .map (ms.push { key := .int j n, val := u, born := c }) (c + 1)) hw hb hL h ⟨_, heap_setObj_eq w _ _ hlt, by
        rw [Array.toList_push]
        exact hr.append ⟨_, [], rfl, rfl, rfl, hv, rfl⟩⟩
      refine ⟨_, ?_, hpost⟩
      simp only [Instr.mapUpdate, Sem.run_bind, run_underlying ht, Result.andThen_ok, run_getMap hm, hck, h2, run_setMap hm]
  | some rv =>
    cases q with
    | none => exact h3.elim
    | some qv =>
      obtain ⟨i, rv⟩ := rv
      obtain ⟨i', qv⟩ := qv
      obtain ⟨rfl, h4, x, h5, h6, h7⟩ := h3
      have hmi : ∃ m, ms[i]? = some m ∧ m.key = .int j n := by
        obtain ⟨m, hm1, hm2, _⟩ := hr.get i x h5
        exact ⟨m, by rw [← Array.getElem?_toList]; exact hm1, by rw [hm2, h7]⟩
      obtain ⟨m, hm1, hm2⟩ := hmi
      have hpost := Post.setObj (O := .map (ms.modify i fun e => { e with key := .int j n, val := u }) c) hw hb hL h ⟨_, heap_setObj_eq w _ _ hlt, by
        rw [Array.toList_modify]
        exact hr.modify i fun e m he hm hk hbn hvv => ⟨rfl, hbn, hv⟩⟩
      refine ⟨_, ?_, hpost⟩
      simp only [Instr.mapUpdate, Sem.run_bind, run_underlying ht, Result.andThen_ok, run_getMap hm, hck, h2, hm1, Option.map_some, Option.getD_some, hm2, keyStays, run_setMap hm]

theorem mapUpdate_op {t : TypeId} {m k v : Operand} (hw : WRel σ N0 w0 ρ s w) (hm : EvOk σ ρ ev e m) (hk : EvOk σ ρ ev e k) (hv : EvOk σ ρ ev e v) (h : opMapUpdate P ev t m k v s = .ok (nx, s')) :
    NSem P σ N0 w0 (do Instr.mapUpdate t (e m) (e k) (e v); pure .skip) ρ s w nx s' := by
  unfold opMapUpdate at h
  replace h := R.bind_ok' h
  obtain ⟨el, h1, h⟩ := h
  replace h := R.bind_ok' h
  obtain ⟨ka, h2, h⟩ := h
  replace h := R.bind_ok' h
  obtain ⟨kv, h3, h⟩ := h
  replace h := R.bind_ok' h
  obtain ⟨va, h4, h⟩ := h
  replace h := R.bind_ok' h
  obtain ⟨ma, h5, h⟩ := h
  replace h := R.bind_ok' h
  obtain ⟨⟨b, es, c⟩, h6, h⟩ := h
  replace h := R.bind_ok' h
  obtain ⟨s1, h7, h⟩ := h
  obtain ⟨rfl, rfl⟩ := okv_ok h
  obtain ⟨key, kd, ht, hkd⟩ := intKey_ok h1
  obtain ⟨hke, j, n, rfl⟩ := asKey_ok h3 (hk _ h2)
  obtain ⟨L, ms, hL, hu, hb, hmm, hr⟩ := mapOf_ok hw h6 (hm _ h5)
  obtain ⟨w', h8, h9⟩ := mapPut_ok hw ht hkd hL hb hmm hr h7 (hv _ h4)
  exact NSem.of_u ⟨w', ρ, by rw [hu, hke]; exact h8, h9⟩

theorem mapEntry_op {t : TypeId} {m k : Operand} (hw : WRel σ N0 w0 ρ s w) (hm : EvOk σ ρ ev e m) (hk : EvOk σ ρ ev e k) (h : opMapEntry P ev t m k s = .ok (nx, s')) :
    NSem P σ N0 w0 (do pure (.value (← Instr.mapEntry t (e m) (e k)))) ρ s w nx s' := by
  unfold opMapEntry at h
  replace h := R.bind_ok' h
  obtain ⟨el, h1, h⟩ := h
  replace h := R.bind_ok' h
  obtain ⟨ka, h2, h⟩ := h
  replace h := R.bind_ok' h
  obtain ⟨kv, h3, h⟩ := h
  replace h := R.bind_ok' h
  obtain ⟨ma, h5, h⟩ := h
  replace h := R.bind_ok' h
  obtain ⟨⟨b, es, c⟩, h6, h⟩ := h
  replace h := R.bind_ok' h
  obtain ⟨r, h7, h⟩ := h
  obtain ⟨key, kd, ht, hkd⟩ := intKey_ok h1
  obtain ⟨hke, j, n, rfl⟩ := asKey_ok h3 (hk _ h2)
  obtain ⟨L, ms, hL, hu, hb, hmm, hr⟩ := mapOf_ok hw h6 (hm _ h5)
  have hck : ∀ b, (Instr.checkKey b 10000 key (.int j n)).run P w = .ok () w := fun b => checkKey_int b 9999 hkd w
  have hlt : L.blk < w.heap.size := (hw.rng b L hL).1
  obtain ⟨q, h8, h9⟩ := findKey_ok (P := P) hkd hr h7 w
  cases r with
  | none =>
    cases q with
    | some qv => exact h9.elim
    | none =>
      replace h := R.bind_ok' h
      obtain ⟨z, h10, h⟩ := h
      replace h := R.bind_ok' h
      obtain ⟨s1, h11, h⟩ := h
      obtain ⟨rfl, rfl⟩ := okv_ok h
      obtain ⟨zv, hz1, hz2⟩ := zeroOf_ok (σ := σ) h10
      have hpost := Post.setObj (O := .map (ms.push { key := .int j n, val := zv, born := c }) (c + 1)) hw hb hL h11 ⟨_, heap_setObj_eq w _ _ hlt, by
        rw [Array.toList_push]
        exact hr.append ⟨_, [], rfl, rfl, rfl, hz2 ρ, rfl⟩⟩
      refine NSem.of_v ⟨.tuple #[zv, goInt c], _, ρ, ?_, ⟨#[zv, goInt c], rfl, zv, [goInt c], rfl, hz2 ρ, goInt c, [], rfl, ⟨rfl, rfl⟩, rfl⟩, hpost⟩
      simp only [Instr.mapEntry, hu, hke, Sem.run_bind, run_underlying ht, Result.andThen_ok, run_getMap hmm, hck, h8, hz1, run_setMap hmm, Sem.run_pure]
  | some rv =>
    cases q with
    | none => exact h9.elim
    | some qv =>
      obtain ⟨i, rv⟩ := rv
      obtain ⟨i', qv⟩ := qv
      obtain ⟨rfl, g4, x, g5, g6, g7⟩ := h9
      replace h := R.bind_ok' h
      obtain ⟨s1, h11, h⟩ := h
      obtain ⟨rfl, rfl⟩ := okv_ok h
      have hmi : ∃ m, ms[i]? = some m ∧ m.key = .int j n ∧ m.born = x.born := by
        obtain ⟨m, hm1, hm2, hm3, _⟩ := hr.get i x g5
        exact ⟨m, by rw [← Array.getElem?_toList]; exact hm1, by rw [hm2, g7], hm3⟩
      obtain ⟨m', hm1, hm2, hm3⟩ := hmi
      have hpost := Post.setObj (O := .map (ms.modify i fun e => { e with key := .int j n }) c) hw hb hL h11 ⟨_, heap_setObj_eq w _ _ hlt, by
        rw [Array.toList_modify]
        exact hr.modify i fun e m he hm hk hbn hvv => ⟨rfl, hbn, hvv⟩⟩
      refine NSem.of_v ⟨.tuple #[qv, goInt x.born], _, ρ, ?_, ⟨#[qv, goInt x.born], rfl, qv, [goInt x.born], rfl, g4, goInt x.born, [], rfl, ⟨by simp [g5, goInt], rfl⟩, rfl⟩, hpost⟩
      simp only [Instr.mapEntry, hu, hke, Sem.run_bind, run_underlying ht, Result.andThen_ok, run_getMap hmm, hck, h8, hm1, Option.map_some, Option.getD_some, hm2, keyStays, run_setMap hmm, Sem.run_pure, hm3]

theorem findIdx_array (ms : Array MapEntry) (p : MapEntry → Bool) : ms.findIdx? p = ms.toList.findIdx? p := by cases ms; simp

theorem findIdx_born {st : Int} : ∀ {es : List AEntry} {ms : List MapEntry}, ERels σ ρ es ms → es.findIdx? (fun e => (e.born : Int) == st) = ms.findIdx? (fun e => (e.born : Int) == st)
  | [], ms, h => by simp only [ERels] at h; subst h; rfl
  | e :: r, ms, ⟨m, ns, h, h2, h3, h4, h5⟩ => by
    subst h
    rw [List.findIdx?_cons, List.findIdx?_cons, h3, findIdx_born h5]

theorem entryStore_op {t : TypeId} {m st v : Operand} (hw : WRel σ N0 w0 ρ s w) (hm : EvOk σ ρ ev e m) (hs : EvOk σ ρ ev e st) (hv : EvOk σ ρ ev e v) (h : opEntryStore P ev m st v s = .ok (nx, s')) :
    NSem P σ N0 w0 (do Instr.entryStore t (e m) (e st) (e v); pure .skip) ρ s w nx s' := by
  unfold opEntryStore at h
  replace h := R.bind_ok' h
  obtain ⟨sa, h1, h⟩ := h
  replace h := R.bind_ok' h
  obtain ⟨⟨k, si⟩, h2, h⟩ := h
  replace h := R.bind_ok' h
  obtain ⟨va, h3, h⟩ := h
  replace h := R.bind_ok' h
  obtain ⟨ma, h5, h⟩ := h
  replace h := R.bind_ok' h
  obtain ⟨⟨b, es, c⟩, h6, h⟩ := h
  obtain ⟨L, ms, hL, hu, hb, hmm, hr⟩ := mapOf_ok hw h6 (hm _ h5)
  have hlt : L.blk < w.heap.size := (hw.rng b L hL).1
  have hst := asNatLit_ok h2 (hs _ h1)
  have hfi := findIdx_born (st := si) hr
  simp only [] at h
  cases hi : es.findIdx? (fun e => (e.born : Int) == si) with
  | none => rw [hi] at h; cases h
  | some i =>
    rw [hi] at h
    simp only [] at h
    replace h := R.bind_ok' h
    obtain ⟨s1, h11, h⟩ := h
    obtain ⟨rfl, rfl⟩ := okv_ok h
    have hpost := Post.setObj (O := .map (ms.modify i fun x => { x with val := e v }) c) hw hb hL h11 ⟨_, heap_setObj_eq w _ _ hlt, by
      rw [Array.toList_modify]
      exact hr.modify i fun x m he hm hk hbn hvv => ⟨hk, hbn, hv _ h3⟩⟩
    refine NSem.of_u ⟨_, ρ, ?_, hpost⟩
    have hfi' : ms.findIdx? (fun x => (x.born : Int) == si) = some i := by
      rw [← hi, hfi, findIdx_array]
    rw [hu, hst]
    simp only [Instr.entryStore, Sem.run_bind, Result.andThen_ok, run_getMap hmm, asInt, asIntOf, Sem.run_pure, hfi', run_setMap hmm]

/-! ### Ranging -/
theorem ERels.filter {p : AEntry → Bool} {q : MapEntry → Bool} : ∀ {es : List AEntry} {ms : List MapEntry}, ERels σ ρ es ms → (∀ (e : AEntry) (m : MapEntry), m.born = e.born → q m = p e) → ERels σ ρ (es.filter p) (ms.filter q)
  | [], ms, h, _ => by simp only [ERels] at h; subst h; rfl
  | e :: r, ms, ⟨m, ns, h, h2, h3, h4, h5⟩, hpq => by
    subst h
    rw [List.filter_cons, List.filter_cons, hpq e m h3]
    split
    · exact ⟨m, _, rfl, h2, h3, h4, ERels.filter h5 hpq⟩
    · exact ERels.filter h5 hpq

theorem ERels.all {p : AEntry → Bool} {q : MapEntry → Bool} : ∀ {es : List AEntry} {ms : List MapEntry}, ERels σ ρ es ms → (∀ (e : AEntry) (m : MapEntry), m.born = e.born → q m = p e) → ms.all q = es.all p
  | [], ms, h, _ => by simp only [ERels] at h; subst h; rfl
  | e :: r, ms, ⟨m, ns, h, h2, h3, h4, h5⟩, hpq => by
    subst h
    simp only [List.all_cons, hpq e m h3, ERels.all h5 hpq]

theorem ERels.find {st : Nat} : ∀ {es : List AEntry} {ms : List MapEntry} {x : AEntry}, ERels σ ρ es ms → es.find? (fun e => Nat.beq e.born st) = some x → ∃ m, ms.find? (fun m => m.born == st) = some m ∧ m.key = x.key ∧ VRel σ ρ x.val m.val
  | [], ms, x, h, hx => by simp at hx
  | e :: r, ms, x, ⟨m, ns, h, h2, h3, h4, h5⟩, hx => by
    subst h
    rw [List.find?_cons] at hx
    cases hq : Nat.beq e.born st with
    | true =>
      rw [hq] at hx
      cases hx
      have := Nat.eq_of_beq_eq_true hq
      exact ⟨m, by rw [List.find?_cons]; simp [h3, this], h2, h4⟩
    | false =>
      rw [hq] at hx
      obtain ⟨m', g1, g2⟩ := ERels.find h5 hx
      have hne : (m.born == st) = false := by
        rw [h3]
        cases hb : (e.born == st) with
        | false => rfl
        | true => have := eq_of_beq hb; subst this; simp at hq
      exact ⟨m', by rw [List.find?_cons, hne]; exact g1, g2⟩

theorem range_op {t : TypeId} {x : Operand} (hw : WRel σ N0 w0 ρ s w) (hf : Fresh ρ s.next s'.next) (hx : EvOk σ ρ ev e x) (h : opRange P ev t x s = .ok (nx, s')) :
    NSem P σ N0 w0 (do pure (.value (← Instr.range t (e x)))) ρ s w nx s' := by
  unfold opRange at h
  replace h := R.bind_ok' h
  obtain ⟨d, h1, h⟩ := h
  replace h := R.bind_ok' h
  obtain ⟨xa, h2, h⟩ := h
  have hxv := hx _ h2
  split at h
  · replace h := R.bind_ok' h
    obtain ⟨s1, h3, h⟩ := h
    obtain ⟨rfl, rfl⟩ := okv_ok h
    simp only [VRel] at hxv
    obtain ⟨ρ', h4, h5⟩ := Post.alloc (O := .mapIter none 0 #[] 0) hw h3 hf 0 fun ρ' he => ⟨rfl, none, by show (w.heap.push _)[w.heap.size]? = _; simp, trivial⟩
    refine NSem.of_v ⟨_, _, ρ', ?_, ⟨_, h4, rfl⟩, h5⟩
    simp [Instr.range, hxv.1, run_und h1]
  · rename_i m
    obtain ⟨L, hL, hu⟩ := hxv
    replace h := R.bind_ok' h
    obtain ⟨o, h3, h⟩ := h
    split at h
    · rename_i es c
      replace h := R.bind_ok' h
      obtain ⟨s1, h4, h⟩ := h
      obtain ⟨rfl, rfl⟩ := okv_ok h
      obtain ⟨ms, hm, hr⟩ := hw.heap _ _ (get_ok h3) L hL
      obtain ⟨ρ', h5, h6⟩ := Post.alloc (O := .mapIter (some L.blk) c #[] c) hw h4 hf 0 fun ρ' he => ⟨rfl, some L.blk, by show (w.heap.push _)[w.heap.size]? = _; simp, L, he _ _ hL, rfl⟩
      refine NSem.of_v ⟨_, _, ρ', ?_, ⟨_, h5, rfl⟩, h6⟩
      simp [Instr.range, hu, run_und h1, run_getMap hm]
    · cases h
  · cases h

theorem entry_op {it : Operand} (hw : WRel σ N0 w0 ρ s w) (hx : EvOk σ ρ ev e it) (h : opEntry P ev it s = .ok (nx, s')) :
    NSem P σ N0 w0 (do pure (.value (← Instr.entry (e it)))) ρ s w nx s' := by
  unfold opEntry at h
  replace h := R.bind_ok' h
  obtain ⟨xa, h1, h⟩ := h
  replace h := R.bind_ok' h
  obtain ⟨⟨r, o⟩, h2, h⟩ := h
  replace h := R.bind_ok' h
  obtain ⟨_, h3, h⟩ := h
  replace h := R.bind_ok' h
  obtain ⟨ob, h4, h⟩ := h
  have h3 := Nat.eq_of_beq_eq_true (guardR_ok h3)
  obtain ⟨L, hL, hp⟩ := asPtr_ok h2 (hx _ h1)
  split at h
  · rename_i m sn seen last
    replace h := R.bind_ok' h
    obtain ⟨mo, h5, h⟩ := h
    split at h
    · rename_i es c
      replace h := R.bind_ok' h
      obtain ⟨_, h6, h⟩ := h
      replace h := R.bind_ok' h
      obtain ⟨st, h7, h⟩ := h
      have h6 := Nat.eq_of_beq_eq_true (guardR_ok h6)
      cases hq : es.find? (fun e => Nat.beq e.born st) with
      | none => rw [hq] at h; cases h
      | some x =>
        rw [hq] at h
        replace h := R.bind_ok' h
        obtain ⟨_, h8, h⟩ := h
        obtain ⟨rfl, rfl⟩ := okv_ok h
        obtain ⟨hi0, m', hi1, hi2⟩ := hw.heap _ _ (get_ok h4) L hL
        cases m' with
        | none => exact hi2.elim
        | some mc =>
          obtain ⟨M, hM, rfl⟩ := hi2
          obtain ⟨ms, hm, hr⟩ := hw.heap _ _ (get_ok h5) M hM
          obtain ⟨me, g1, g2, g3⟩ := hr.find hq
          have hback : seen.toArray.back? = some st := by have := R.of_ok h7; simpa using this
          have hfind : ms.find? (fun m => m.born == st) = some me := by rw [← g1]; cases ms; simp
          refine NSem.of_v (VSem.pure hw (u := .tuple #[me.key, me.val]) ?_ ?_)
          · rw [hp, hi0, h3]
            simp only [Instr.entry, Sem.run_bind, Nat.add_zero, run_getIter hi1, Result.andThen_ok, hback, run_getMap hm, h6, hfind]
            simp
          · refine ⟨#[me.key, me.val], rfl, me.key, [me.val], rfl, ⟨g2, guardR_ok h8⟩, me.val, [], rfl, g3, rfl⟩
    · cases h
  · cases h

theorem WRel.drawn (h : WRel σ N0 w0 ρ s w) (d : Nat) : WRel σ N0 w0 ρ s { w with drawn := d } :=
  ⟨⟨h.base.os, h.base.tape, h.base.output, h.base.size, h.base.block⟩, h.n0, h.bnd, h.inj, h.dom, h.rng, fun b o hb L hL => (h.heap b o hb L hL).of_block rfl⟩

theorem Post.drawn {ρ' : Ren} {w' : World} {d : Nat} (h : Post σ N0 w0 ρ s { w with drawn := d } ρ' s' w') : Post σ N0 w0 ρ s w ρ' s' w' :=
  ⟨h.ext, h.new, h.next, h.ro, h.low, h.same, h.live, h.wrel, h.frame, h.size⟩

end
end Go.Am


/-
  The abstract machine's operations against the model's: the built-in functions.
-/
namespace Go.Am
open Go Go.RowKit
set_option linter.unusedVariables false
set_option linter.unusedSimpArgs false

section
variable {σ : Syms} {N0 : Nat} {w0 : World} {P : Program} {ev : Operand → R AVal} {e : Operand → Value} {ρ : Ren} {s s' : AState} {w : World} {nx : ANext}

/-- An abstract answer and state beside a run that hands back a value. -/
def BSem (P : Program) (σ : Syms) (N0 : Nat) (w0 : World) (sem : Sem Value) (ρ : Ren) (s : AState) (w : World) (r : AVal × AState) : Prop := VSem P σ N0 w0 sem ρ s w r.1 r.2

theorem WRel.of_heap {w' : World} (h : WRel σ N0 w0 ρ s w) (hh : ∀ c : Nat, w'.heap[c]? = w.heap[c]?) (hs : w'.heap.size = w.heap.size) (ho : w'.os = w.os) (ht : w'.tape = w.tape) (hp : w'.output = w.output) : WRel σ N0 w0 ρ s w' :=
  ⟨h.base.trans ⟨ho, ht, hp, by omega, fun k _ => hh k⟩, by have := h.n0; omega, h.bnd, h.inj, h.dom, fun b L e => by rw [hs]; exact h.rng b L e, fun b o hb L hL => (h.heap b o hb L hL).of_block (hh _)⟩

theorem Post.of_heap {w' : World} (h : WRel σ N0 w0 ρ s w) (hh : ∀ c : Nat, w'.heap[c]? = w.heap[c]?) (hs : w'.heap.size = w.heap.size) (ho : w'.os = w.os) (ht : w'.tape = w.tape) (hp : w'.output = w.output) : Post σ N0 w0 ρ s w ρ s w' :=
  ⟨Ext.refl _, fun _ _ e => .inl e, Nat.le_refl _, rfl, Nat.le_refl _, fun _ _ _ => rfl, fun _ _ h => h, h.of_heap hh hs ho ht hp, fun c _ _ => hh c, by omega⟩

/-! ### append -/
theorem lenOfA_ok {a : AVal} {n : Nat} {u : Value} (h : lenOfA a = .ok n) (hv : VRel σ ρ a u) : (∃ b k, u = .slice b n k) ∧ ((∃ b o c, a = .slice b o n c) ∨ (n = 0 ∧ ∃ c, a = .lit (.slice none 0 c))) := by
  unfold lenOfA at h
  split at h
  · rename_i b o m c
    cases h
    refine ⟨?_, .inl ⟨_, _, _, rfl⟩⟩
    cases c with
    | known k => obtain ⟨L, _, h⟩ := hv; exact ⟨_, _, h⟩
    | grown g => obtain ⟨L, k, _, h, _⟩ := hv; exact ⟨_, _, h⟩
  · rename_i m c
    cases hq : Nat.beq m 0 with
    | false => rw [hq] at h; cases h
    | true =>
      rw [hq, cond_true] at h
      cases h
      have := Nat.eq_of_beq_eq_true hq
      subst this
      exact ⟨⟨_, _, hv.1⟩, .inr ⟨rfl, _, rfl⟩⟩
  · cases h

theorem sliceCells_ok {esz n : Nat} {a : AVal} {l : List AVal} {u : Value} (hw : WRel σ N0 w0 ρ s w) (h : sliceCells s esz n a = .ok l) (hv : VRel σ ρ a u) :
    ∃ us : List Value, (∀ d, (Builtin.firstCells esz n u).run P { w with drawn := d } = .ok us.toArray { w with drawn := d }) ∧ VRels σ ρ l us ∧ (∀ b o k c, a = .slice b o k c → us.length = n * esz) ∧ (∀ k c, a = .lit (.slice none k c) → us = []) := by
  unfold sliceCells at h
  split at h
  · rename_i b o m c
    replace h := R.bind_ok' h
    obtain ⟨cs, h1, h⟩ := h
    obtain ⟨g, hb⟩ := getCells_ok h1
    have : ∃ L k, ρ b = some L ∧ u = .slice (some ⟨L.blk, L.off + o, none⟩) m k := by
      cases c with
      | known k => obtain ⟨L, h1, h2⟩ := hv; exact ⟨L, k, h1, h2⟩
      | grown g => obtain ⟨L, k, h1, h2, _⟩ := hv; exact ⟨L, k, h1, h2⟩
    obtain ⟨L, k, hL, rfl⟩ := this
    obtain ⟨us, h2, h3, h4⟩ := cells_of hw hb hL o (n * esz) h
    refine ⟨us, fun d => ?_, h3, fun _ _ _ _ _ => h2, fun _ _ he => (by cases he)⟩
    have := run_loadCells_list (P := P) { w with drawn := d } ⟨L.blk, L.off + o, none⟩ us (fun j v hj => by rw [Addr.add_mid]; exact h4 j v hj)
    rw [h2] at this
    exact this
  · cases h
    obtain ⟨rfl, _⟩ := hv
    exact ⟨[], fun _ => rfl, rfl, fun _ _ _ _ he => (by cases he), fun _ _ _ => rfl⟩
  · cases h

theorem nextcap_le {n c : Nat} (hn : n ≤ 1000000) (hc : c < n) : Builtin.nextslicecap n c ≤ 4000000 := by
  unfold Builtin.nextslicecap
  split
  · omega
  · split
    · omega
    · have step : ∀ (r c b : Nat), c ≤ b → Builtin.growBy n r c ≤ (match r with | 0 => b | 1 => b + (b + 768) / 4 | _ => Builtin.growBy n r c) := by
        intro r c b h
        match r with
        | 0 => simpa [Builtin.growBy] using h
        | 1 => simp only [Builtin.growBy]; split <;> omega
        | r + 2 => simp
      have one : ∀ (r c : Nat), Builtin.growBy n (r + 1) c = c ∨ Builtin.growBy n (r + 1) c = Builtin.growBy n r (c + (c + 768) / 4) := by
        intro r c
        rw [Builtin.growBy]
        split
        · exact .inl rfl
        · exact .inr rfl
      rcases one 3 c with h | h <;> rw [h]
      · omega
      rcases one 2 (c + (c + 768) / 4) with h | h <;> rw [h]
      · omega
      rcases one 1 (c + (c + 768) / 4 + (c + (c + 768) / 4 + 768) / 4) with h | h <;> rw [h]
      · omega
      rcases one 0 (c + (c + 768) / 4 + (c + (c + 768) / 4 + 768) / 4 + (c + (c + 768) / 4 + (c + (c + 768) / 4 + 768) / 4 + 768) / 4) with h | h <;> rw [h]
      · omega
      · simp only [Builtin.growBy]; omega

/-- The model's append where the array has room. -/
theorem run_append_in {sT yT el : TypeId} {tp d : TypeId} {esz n m k : Nat} {a : Addr} {y : Value} {us : List Value} {w' : World} (h1 : P.underlying sT = some (.slice el)) (h2 : P.underlying yT = some (.slice d)) (hsz : (sizeOf el).run P w = .ok esz w)
    (hm : (Builtin.lenOf y).run P w = .ok m w) (hk : n + m ≤ k) (hnew : (Builtin.firstCells esz m y).run P w = .ok us.toArray w) (hst : (storeCells (a.add (n * esz)) us).run P w = .ok () w') :
    (Builtin.append_ #[sT, yT] tp #[.slice (some a) n k, y]).run P w = .ok (.slice (some a) (n + m) k) w' := by
  simp only [Builtin.append_, List.getElem?_toArray, List.getElem?_cons_zero, List.getElem?_cons_succ]
  simp [run_underlying h1, run_underlying h2, hsz, hm, hk, hnew, hst]

/-- The model's append where the array has no room. -/
theorem run_append_new {sT yT el tp d : TypeId} {esz n m k : Nat} {b : Option Addr} {y zv : Value} {us vs : List Value} {i : TypeInfo} (h1 : P.underlying sT = some (.slice el)) (h2 : P.underlying yT = some (.slice d)) (hi : P.info? el = some i) (hz : i.size = esz) (hby : i.bytes ≤ 1000000)
    (hzero : i.zero = some zv) (hm : (Builtin.lenOf y).run P w = .ok m w) (hk : k < n + m) (hlim : n + m ≤ 1000000) (hold : ∀ d, (Builtin.firstCells esz n (.slice b n k)).run P { w with drawn := d } = .ok us.toArray { w with drawn := d }) (hnew : ∀ d, (Builtin.firstCells esz m y).run P { w with drawn := d } = .ok vs.toArray { w with drawn := d }) :
    ∃ (dr cap : Nat), n + m ≤ cap ∧ (Builtin.append_ #[sT, yT] tp #[.slice b n k, y]).run P w =
      .ok (.slice (some ⟨w.heap.size, 0, none⟩) (n + m) cap) (({ w with drawn := dr } : World).alloc (.cells (us.toArray ++ vs.toArray ++ Builtin.zeroCells zv.cells (cap - (n + m))) el)) := by
  have hnc := nextcap_le hlim hk
  have hcap : ¬ Builtin.nextslicecap (n + m) k * i.bytes > 2 ^ 48 := by
    have : Builtin.nextslicecap (n + m) k * i.bytes ≤ 4000000 * 1000000 := Nat.mul_le_mul hnc hby
    omega
  have hsz : ∀ w, (sizeOf el).run P w = .ok esz w := fun w => by simp [sizeOf, typeInfo, hi, hz]
  have hbig : ¬ (((n + m : Nat) : Int) > IntKind.i64.max ∧ i.bytes = 0) := by
    have : IntKind.i64.max = 9223372036854775807 := rfl
    omega
  let cap := n + m + (w.tape w.drawn (.appendCap (n + m) k el)) % (2 ^ 63 - (n + m))
  refine ⟨w.drawn + 1, cap, Nat.le_add_right _ _, ?_⟩
  have hroom : ¬ (n + m ≤ k) := by omega
  simp only [Builtin.append_, List.getElem?_toArray, List.getElem?_cons_zero, List.getElem?_cons_succ]
  simp only [Sem.run_bind, run_underlying h1, run_underlying h2, Result.andThen_ok, hsz, Sem.run_pure]
  simp only [Bool.false_eq_true, if_false, Sem.run_bind, hm, Result.andThen_ok, if_neg hroom]
  simp only [run_info hi, Result.andThen_ok, false_or]
  rw [if_neg hbig]
  simp only [Sem.run_bind, run_info hi, Result.andThen_ok]
  rw [if_neg hcap]
  simp only [Sem.run_bind, run_choose, Question.forced, Bool.false_eq_true, if_false, Question.cut, Result.andThen_ok, run_info hi, run_askRoom]
  rw [hold, Result.andThen_ok]
  simp only [Bool.not_false, if_true, hnew, Result.andThen_ok]
  have hzr : ∀ w, (zeroValue el).run P w = .ok zv w := fun w => by simp [zeroValue, run_info hi, hzero]
  simp only [hzr, Result.andThen_ok, newRow, Sem.run_bind, run_newObj, Sem.run_pure]
  rfl

theorem zeroCells_size (z : Array Value) (n : Nat) : (Builtin.zeroCells z n).size = n * z.size := by simp [Builtin.zeroCells]

/-- What the types tell at an append. -/
structure AppT (P : Program) (σ : Syms) (sT yT el d : TypeId) (esz : Nat) (i : TypeInfo) (zv : Value) : Prop where
  hs : P.underlying sT = some (.slice el)
  hy : P.underlying yT = some (.slice d)
  hi : P.info? el = some i
  hz : i.size = esz
  hb : i.bytes ≤ 1000000
  hzero : i.zero = some zv
  hzs : zv.cells.size = esz
  pos : 1 ≤ esz

theorem appendNew_ok {sT yT el d tp : TypeId} {esz n m k : Nat} {i : TypeInfo} {zv : Value} (T : AppT P σ sT yT el d esz i zv) {b : Option Addr} {y : Value} {us vs : List Value} {cs : List AVal} {r : AVal × AState}
    (hw : WRel σ N0 w0 ρ s w) (hf : Fresh ρ s.next r.2.next) (h : appendNew s esz n m cs = .ok r) (hm : (Builtin.lenOf y).run P w = .ok m w) (hk : k < n + m)
    (hold : ∀ d, (Builtin.firstCells esz n (.slice b n k)).run P { w with drawn := d } = .ok us.toArray { w with drawn := d }) (hnew : ∀ d, (Builtin.firstCells esz m y).run P { w with drawn := d } = .ok vs.toArray { w with drawn := d })
    (hu : us.length = n * esz) (hv : vs.length = m * esz) (hr : VRels σ ρ cs (us ++ vs)) : BSem P σ N0 w0 (Builtin.append_ #[sT, yT] tp #[.slice b n k, y]) ρ s w r := by
  unfold appendNew at h
  simp only [allocS_eq] at h
  replace h := R.bind_ok' h
  obtain ⟨_, h1, h⟩ := h
  replace h := R.bind_ok' h
  obtain ⟨s1, h2, h⟩ := h
  cases h
  have h1 := Nat.le_of_ble_eq_true (guardR_ok h1)
  obtain ⟨dr, cap, hcap, hrun⟩ := run_append_new (P := P) (w := w) (tp := tp) T.hs T.hy T.hi T.hz T.hb T.hzero hm hk h1 hold hnew
  have hwd := hw.drawn dr
  obtain ⟨ρ', h3, h4⟩ := newCells_ok hwd h2 hf (us.toArray ++ vs.toArray ++ Builtin.zeroCells zv.cells (cap - (n + m))) el (by
    have : (us.toArray ++ vs.toArray ++ Builtin.zeroCells zv.cells (cap - (n + m))).toList.take cs.length = us ++ vs := by
      rw [← hr.length]
      simp only [Array.toList_append]
      exact List.take_left' rfl
    rw [this]; exact hr)
  refine ⟨_, _, ρ', hrun, ⟨_, cap, h3, rfl, hcap, rfl, ?_⟩, h4.drawn⟩
  simp only [Array.size_append, List.size_toArray, zeroCells_size, T.hzs, hu, hv]
  rw [← Nat.add_mul, ← Nat.add_mul, Nat.zero_add]
  congr 1
  omega

theorem appendIn_ok {sT yT el d tp : TypeId} {esz n m k o b : Nat} {i : TypeInfo} {zv : Value} (T : AppT P σ sT yT el d esz i zv) {y : Value} {vs : List Value} {new : List AVal} {cap : ACap} {r : AVal × AState} {L : Loc}
    (hw : WRel σ N0 w0 ρ s w) (h : appendIn s b o n m esz cap new = .ok r) (hL : ρ b = some L) (hm : (Builtin.lenOf y).run P w = .ok m w) (hk : n + m ≤ k) (hnew : (Builtin.firstCells esz m y).run P w = .ok vs.toArray w) (hr : VRels σ ρ new vs)
    (hcap : VRel σ ρ (.slice b o (n + m) cap) (.slice (some ⟨L.blk, L.off + o, none⟩) (n + m) k)) : BSem P σ N0 w0 (Builtin.append_ #[sT, yT] tp #[.slice (some ⟨L.blk, L.off + o, none⟩) n k, y]) ρ s w r := by
  unfold appendIn at h
  replace h := R.bind_ok' h
  obtain ⟨s1, h2, h⟩ := h
  cases h
  obtain ⟨h3, h4⟩ := storeCells_ok (P := P) hw h2 hL hr
  have hsz : (sizeOf el).run P w = .ok esz w := by simp [sizeOf, typeInfo, T.hi, T.hz]
  refine ⟨_, _, ρ, run_append_in T.hs T.hy hsz hm hk hnew (a := ⟨L.blk, L.off + o, none⟩) ?_, hcap, h4⟩
  rw [Addr.add_mid, Nat.add_assoc]
  exact h3

/-- A block is let go of. -/
theorem Post.kill {b : Nat} (hw : WRel σ N0 w0 ρ s w) (hb : b ≤ lim) (h : s.put b none = .ok s') : Post σ N0 w0 ρ s w ρ s' w := by
  obtain ⟨e1, e2, e3, e4⟩ := put_ok hb h
  have live : ∀ a, s'.heap.get a ≠ none → s.heap.get a ≠ none := fun a ha => by
    rw [e4] at ha
    by_cases hq : a = b
    · rw [if_pos hq] at ha; exact absurd rfl ha
    · rw [if_neg hq] at ha; exact ha
  refine ⟨Ext.refl _, fun _ _ e => .inl e, by omega, e3, by omega, fun a h1 h2 => by rw [e4, if_neg (by omega)], fun a _ => live a, ?_, fun _ _ _ => rfl, Nat.le_refl _⟩
  have hbnd := hw.bnd
  refine ⟨hw.base, hw.n0, by omega, fun a a' M M' hr hr' ha ha' => ?_, fun a ha => by rw [e1]; exact hw.dom a (live a ha), fun a M ea => by rw [e3]; exact hw.rng a M ea, fun a o ha M ea => ?_⟩
  · rw [e3] at hr hr'
    exact hw.inj a a' M M' hr hr' (live a ha) (live a' ha')
  · rw [e3]
    rw [e4] at ha
    by_cases hq : a = b
    · rw [if_pos hq] at ha; cases ha
    · rw [if_neg hq] at ha; exact hw.heap a o ha M ea

/-- A block that grows in place, under a new number. -/
theorem Post.moved {b : Nat} {cs cs' : List AVal} {g : Bool} {s1 : AState} {L : Loc} {us : List Value} {o : Nat} (hw : WRel σ N0 w0 ρ s w) (hro : s.ro ≤ b) (hb : s.heap.get b = some (.cells cs g)) (hL : ρ b = some L) (h : s.put b none = .ok s1) (ha : s1.alloc (.cells cs' true) = .ok s')
    (hf : Fresh ρ s.next s'.next) (ho : ∀ ρ', Ext ρ ρ' → ORel σ ρ' L true (w.setCells L.blk o us) (.cells cs' true)) :
    ∃ ρ', ρ' s.next = some L ∧ Post σ N0 w0 ρ s w ρ' s' (w.setCells L.blk o us) := by
  have hbn := hw.dom b (by rw [hb]; simp)
  have hbnd := hw.bnd
  obtain ⟨e1, e2, e3, e4⟩ := put_ok (by omega) h
  obtain ⟨⟨f1, f1'⟩, f2, f3, f4⟩ := alloc_ok ha
  rw [e1] at f1 f1' f4
  have hfn : ρ s.next = none := hf s.next (Nat.le_refl _) (by omega)
  let ρ' : Ren := fun a => if a = s.next then some L else ρ a
  have hρ : ρ' s.next = some L := by simp [ρ']
  have hne : ∀ a, a ≠ s.next → ρ' a = ρ a := fun a hq => by simp [ρ', hq]
  have ext : Ext ρ ρ' := fun a M ea => by
    by_cases hq : a = s.next
    · subst hq; rw [hfn] at ea; cases ea
    · rw [hne a hq]; exact ea
  have get' : ∀ a, s'.heap.get a = if a = s.next then some (.cells cs' true) else if a = b then none else s.heap.get a := fun a => by rw [f4, e4]
  have live : ∀ a, a ≠ s.next → s'.heap.get a ≠ none → a ≠ b ∧ s.heap.get a ≠ none := fun a hq hl => by
    rw [get', if_neg hq] at hl
    by_cases hq' : a = b
    · rw [if_pos hq'] at hl; exact absurd rfl hl
    · rw [if_neg hq'] at hl; exact ⟨hq', hl⟩
  have hblk := hw.rng b L hL
  have hframe : ∀ c, c ≠ L.blk → (w.setCells L.blk o us).heap[c]? = w.heap[c]? := fun c hc => heap_setCells us w _ c hc
  have hsize : (w.setCells L.blk o us).heap.size = w.heap.size := size_setCells us w _
  refine ⟨ρ', hρ, ext, fun a M ea => ?_, by omega, by omega, by omega, fun a h1 h2 => ?_, fun a h1 hl => (live a (by omega) hl).2, ?_, fun c hc H => ?_, by omega⟩
  · by_cases hq : a = s.next
    · subst hq
      rw [hρ] at ea
      cases ea
      exact .inr ⟨Nat.le_refl _, by omega, .inr ⟨b, L, hbn, by omega, hL, rfl⟩⟩
    · rw [hne a hq] at ea; exact .inl ea
  · rw [get', if_neg (by omega), if_neg (by omega)]
  · refine ⟨hw.base.trans (Below.setCells' (b := L.blk) (o := 0) (w := w) us w _ (hblk.2.1 hro)), by have := hw.n0; omega, by omega, fun a a' M M' hr hr' hl hl' ea ea' hM => ?_, fun a hl => ?_, fun a M ea => ?_, fun a x hx M ea => ?_⟩
    · rw [f3, e3] at hr hr'
      by_cases h1 : a = s.next
      · by_cases h2 : a' = s.next
        · omega
        · exfalso
          subst h1
          rw [hρ] at ea; cases ea
          rw [hne a' h2] at ea'
          obtain ⟨g1, g2⟩ := live a' h2 hl'
          exact g1 (hw.inj a' b M' L hr' hro g2 (by rw [hb]; simp) ea' hL hM.symm)
      · by_cases h2 : a' = s.next
        · exfalso
          subst h2
          rw [hρ] at ea'; cases ea'
          rw [hne a h1] at ea
          obtain ⟨g1, g2⟩ := live a h1 hl
          exact g1 (hw.inj a b M L hr hro g2 (by rw [hb]; simp) ea hL hM)
        · rw [hne a h1] at ea
          rw [hne a' h2] at ea'
          exact hw.inj a a' M M' hr hr' (live a h1 hl).2 (live a' h2 hl').2 ea ea' hM
    · by_cases h1 : a = s.next
      · omega
      · have := hw.dom a (live a h1 hl).2; omega
    · rw [hsize, f3, e3]
      by_cases h1 : a = s.next
      · subst h1
        rw [hρ] at ea; cases ea
        exact ⟨hblk.1, fun _ => hblk.2.1 hro, fun h2 => by omega⟩
      · rw [hne a h1] at ea; exact hw.rng a M ea
    · rw [f3, e3]
      by_cases h1 : a = s.next
      · subst h1
        rw [hρ] at ea; cases ea
        rw [get', if_pos rfl] at hx
        cases hx
        have : s.ro ≤ s.next := hbnd.1
        simpa [this] using ho ρ' ext
      · rw [hne a h1] at ea
        rw [get', if_neg h1] at hx
        by_cases h2 : a = b
        · rw [if_pos h2] at hx; cases hx
        · rw [if_neg h2] at hx
          refine ((hw.heap a x hx M ea).mono ext).of_block (hframe _ fun hc => ?_)
          by_cases hra : s.ro ≤ a
          · exact h2 (hw.inj a b M L hra hro (by rw [hx]; simp) (by rw [hb]; simp) ea hL hc)
          · have h3 := (hw.rng a M ea).2.2 (by omega)
            have h4 := hblk.2.1 hro
            omega
  · by_cases hc' : c = L.blk
    · exact absurd hc'.symm (H b L hbn (by omega) hL)
    · exact hframe c hc'

theorem run_lenOf {b : Option Addr} {n k : Nat} : (Builtin.lenOf (.slice b n k)).run P w = .ok n w := rfl

theorem appendA_ok {sT yT tp : TypeId} {x y : AVal} {r : AVal × AState} {u v : Value} (hw : WRel σ N0 w0 ρ s w) (hf : Fresh ρ s.next r.2.next) (h : appendA P s sT yT x y = .ok r) (hu : VRel σ ρ x u) (hv : VRel σ ρ y v) :
    BSem P σ N0 w0 (Builtin.append_ #[sT, yT] tp #[u, v]) ρ s w r := by
  unfold appendA at h
  replace h := R.bind_ok' h
  obtain ⟨d1, h1, h⟩ := h
  replace h := R.bind_ok' h
  obtain ⟨d2, h2, h⟩ := h
  split at h
  case h_2 => cases h
  rename_i el d
  replace h := R.bind_ok' h
  obtain ⟨esz, h3, h⟩ := h
  replace h := R.bind_ok' h
  obtain ⟨by_, h4, h⟩ := h
  replace h := R.bind_ok' h
  obtain ⟨z, h5, h⟩ := h
  replace h := R.bind_ok' h
  obtain ⟨_, h6, h⟩ := h
  replace h := R.bind_ok' h
  obtain ⟨m, h7, h⟩ := h
  replace h := R.bind_ok' h
  obtain ⟨new, h8, h⟩ := h
  replace h := R.bind_ok' h
  obtain ⟨_, h9, h⟩ := h
  have h6 := guardR_ok h6
  simp only [Bool.and_eq_true, Nat.ble_eq] at h6
  obtain ⟨⟨g1, g2⟩, g3⟩ := h6
  have g3 := Nat.eq_of_beq_eq_true g3
  obtain ⟨i, zv, hi1, hi2, hz⟩ := zeroOf_raw (σ := σ) h5
  obtain ⟨i', hi3, hi4⟩ := szOf_ok h3
  rw [hi1] at hi3; cases hi3
  obtain ⟨i', hi5, hi6⟩ := byOf_ok h4
  rw [hi1] at hi5; cases hi5
  have T : AppT P σ sT yT el d esz i zv := ⟨und_ok h1, und_ok h2, hi1, hi4, by omega, hi2, by have := (hz ρ).cells'.length; simp at this; omega, g1⟩
  obtain ⟨⟨yb, yk, rfl⟩, hy⟩ := lenOfA_ok h7 hv
  obtain ⟨vs, hvs1, hvs2, hvs3, hvs4⟩ := sliceCells_ok (P := P) hw h8 hv
  have hvl : vs.length = m * esz := by
    rcases hy with ⟨b, o, c, rfl⟩ | ⟨rfl, c, rfl⟩
    · exact hvs3 _ _ _ _ rfl
    · rw [hvs4 _ _ rfl]; simp
  have hm : ∀ d, (Builtin.lenOf (.slice yb m yk)).run P { w with drawn := d } = .ok m { w with drawn := d } := fun _ => rfl
  have hsz : (sizeOf el).run P w = .ok esz w := run_sz h3 w
  unfold appendTo at h
  split at h
  · rename_i n c
    replace h := R.bind_ok' h
    obtain ⟨_, h10, h⟩ := h
    have h10 := guardR_ok h10
    simp only [Bool.and_eq_true] at h10
    have hn := Nat.eq_of_beq_eq_true h10.1
    have hc := Nat.eq_of_beq_eq_true h10.2
    subst hn; subst hc
    obtain ⟨rfl, _⟩ := hu
    cases hq : Nat.beq m 0 with
    | true =>
      rw [hq, cond_true] at h
      cases h
      have := Nat.eq_of_beq_eq_true hq
      subst this
      refine VSem.pure hw (u := .slice none 0 0) ?_ ⟨rfl, rfl⟩
      have hnew := hvs1 w.drawn
      simp only [Builtin.append_, List.getElem?_toArray, List.getElem?_cons_zero, List.getElem?_cons_succ]
      have hnew' : (Builtin.firstCells esz 0 (.slice yb 0 yk)).run P w = .ok vs.toArray w := hnew
      simp [run_underlying T.hs, run_underlying T.hy, hsz, Builtin.lenOf, hnew']
    | false =>
      rw [hq, cond_false] at h
      have hm0 : m ≠ 0 := fun e => by subst e; simp at hq
      exact appendNew_ok T (us := []) hw hf h (hm w.drawn) (by omega) (fun _ => rfl) hvs1 (by simp) hvl hvs2
  · rename_i b o n c
    obtain ⟨L, hL, rfl⟩ := hu
    cases hq : Nat.ble (n + m) c with
    | true =>
      rw [hq, cond_true] at h
      have hle := Nat.le_of_ble_eq_true hq
      cases hq2 : Nat.beq m 0 with
      | true =>
        rw [hq2, cond_true] at h
        cases h
        have := Nat.eq_of_beq_eq_true hq2
        subst this
        have hv0 : vs = [] := List.length_eq_zero_iff.1 (by rw [hvl]; simp)
        subst hv0
        refine VSem.pure hw (u := .slice (some ⟨L.blk, L.off + o, none⟩) n c) ?_ ⟨L, hL, rfl⟩
        exact run_append_in T.hs T.hy hsz (hm w.drawn) hle (hvs1 w.drawn) rfl
      | false =>
        rw [hq2, cond_false] at h
        exact appendIn_ok T hw h hL (hm w.drawn) hle (hvs1 w.drawn) hvs2 ⟨L, hL, rfl⟩
    | false =>
      rw [hq, cond_false] at h
      have hlt : c < n + m := by
        rcases Nat.lt_or_ge c (n + m) with h' | h'
        · exact h'
        · rw [Nat.ble_eq_true_of_le h'] at hq; cases hq
      replace h := R.bind_ok' h
      obtain ⟨cs, h10, h⟩ := h
      replace h := R.bind_ok' h
      obtain ⟨old, h11, h⟩ := h
      obtain ⟨us, k1, k2, k3, _⟩ := sliceCells_ok (P := P) (esz := esz) (n := n) (a := .slice b o n (.known c)) (l := old) hw (by show (do takeN (← getCells s b) o (n * esz)) = _; rw [h10]; exact h11) ⟨L, hL, rfl⟩
      exact appendNew_ok T hw hf h (hm w.drawn) hlt k1 hvs1 (k3 _ _ _ _ rfl) hvl (k2.append hvs2)
  · rename_i b o n g
    replace h := R.bind_ok' h
    obtain ⟨_, h10, h⟩ := h
    have h10 := Nat.eq_of_beq_eq_true (guardR_ok h10)
    subst h10
    replace h := R.bind_ok' h
    obtain ⟨ob, h11, h⟩ := h
    have hb := get_ok h11
    split at h
    case h_2 => cases h
    rename_i cs g'
    obtain ⟨L, k, hL, rfl, hk1, hk2, hk3⟩ := hu
    unfold appendGrown at h
    replace h := R.bind_ok' h
    obtain ⟨_, h12, h⟩ := h
    have h12 := guardR_ok h12
    subst h12
    obtain ⟨o1, o2, o3⟩ := hw.heap _ _ hb L hL
    obtain ⟨o4, o5, o6⟩ := o3 rfl
    cases hq : Nat.ble (o + (n + m) * g) cs.length with
    | true =>
      rw [hq, cond_true] at h
      have hle := Nat.le_of_ble_eq_true hq
      have hnk : n + m ≤ k := by
        have : (n + m) * g ≤ k * g := by omega
        exact Nat.le_of_mul_le_mul_right this (by omega)
      exact appendIn_ok T hw h hL (hm w.drawn) hnk (hvs1 w.drawn) hvs2 ⟨L, k, hL, rfl, hnk, hk2, hk3⟩
    | false =>
      rw [hq, cond_false] at h
      replace h := R.bind_ok' h
      obtain ⟨_, h13, h⟩ := h
      have h13 := guardR_ok h13
      simp only [Bool.and_eq_true, Nat.ble_eq] at h13
      obtain ⟨⟨j1, j2⟩, j3⟩ := h13
      have j1 := Nat.eq_of_beq_eq_true j1
      subst j1
      replace h := R.bind_ok' h
      obtain ⟨s1, h14, h⟩ := h
      have hbl : b ≤ lim := by have := hw.dom b (by rw [hb]; simp); have := hw.bnd; omega
      have hkill := Post.kill hw hbl h14
      have hold : VRels σ ρ (cs.take (n * g)) (((List.range (n * g)).map fun j => (w.cell? ⟨L.blk, L.off + j, none⟩).getD undef)) := by
        refine VRels.of_get (by simp; omega) fun j v hj => ?_
        rw [List.getElem?_take] at hj
        split at hj
        · rename_i hjn
          obtain ⟨u, hu, hr⟩ := o1 j v hj
          exact ⟨u, by simp [hjn, hu], hr⟩
        · cases hj
      by_cases hroom : n + m ≤ k
      · -- in place
        unfold appendNew at h
        simp only [allocS_eq] at h
        replace h := R.bind_ok' h
        obtain ⟨_, h15, h⟩ := h
        replace h := R.bind_ok' h
        obtain ⟨s2, h16, h⟩ := h
        cases h
        have hvone := hvs2.oneCell (guardR_ok h9)
        have hsize : (n + m) * g ≤ L.size := by
          have : (n + m) * g ≤ k * g := Nat.mul_le_mul_right g hroom
          omega
        rw [Nat.add_mul] at hsize
        have hcell : ∀ j, j < vs.length → (w.cell? ⟨L.blk, n * g + j, none⟩).isSome = true := fun j hj => (o6 _ (by omega)).1
        have hfz : ∀ j, j < vs.length → w.frozen? ⟨L.blk, n * g + j, none⟩ = false := fun j hj => (o6 _ (by omega)).2
        have hst := run_storeCells_cells (P := P) L.blk (n * g) vs 0 w (fun j hj => by simpa using hcell j hj) (fun j hj => by simpa using hfz j hj) hvone
        simp only [Nat.add_zero] at hst
        have e1 := (put_ok hbl h14).1
        obtain ⟨ρ', q1, q2⟩ := Post.moved (us := vs) (o := n * g) hw j2 hb hL h14 h16 (by simpa using hf) fun ρ' he => by
          refine ⟨fun j v hj => ?_, fun _ j hj => ?_, fun _ => ⟨o4, ?_, fun i hi => ?_⟩⟩
          · rw [o4, Nat.zero_add]
            rw [List.getElem?_append] at hj
            have htl : (cs.take (n * g)).length = n * g := by simp; omega
            rw [htl] at hj
            split at hj
            · rename_i hjn
              rw [List.getElem?_take, if_pos hjn] at hj
              obtain ⟨u, hu, hr⟩ := o1 j v hj
              refine ⟨u, ?_, VRel.mono he _ _ hr⟩
              rw [World.cell?_setCells_out L.blk vs (n * g) w _ (fun _ _ => by simp only []; omega)]
              rw [o4, Nat.zero_add] at hu
              exact hu
            · rename_i hjn
              obtain ⟨u, hu, hr⟩ := hvs2.get _ v hj
              have hju : j - n * g < vs.length := (List.getElem?_eq_some_iff.1 hu).1
              refine ⟨u, ?_, VRel.mono he _ _ hr⟩
              have := World.cell?_setCells_in L.blk vs (n * g) w hcell (j - n * g) hju
              rw [show n * g + (j - n * g) = j by omega] at this
              rw [this]
              simpa [hju] using hu
          · rw [o4, Nat.zero_add, World.frozen?_setCells]
            have hnl := hvs2.length
            simp only [List.length_append, List.length_take] at hj
            exact (o6 j (by omega)).2
          · have hnl := hvs2.length
            simp only [List.length_append, List.length_take]
            omega
          · rw [World.frozen?_setCells]
            refine ⟨?_, (o6 i hi).2⟩
            by_cases hin : n * g ≤ i ∧ i < n * g + vs.length
            · have := World.cell?_setCells_in L.blk vs (n * g) w hcell (i - n * g) (by omega)
              rw [show n * g + (i - n * g) = i by omega] at this
              rw [this]; rfl
            · rw [World.cell?_setCells_out L.blk vs (n * g) w _ (fun _ _ => by simp only []; omega)]
              exact (o6 i hi).1
        refine ⟨_, _, ρ', run_append_in T.hs T.hy hsz (hm w.drawn) hroom (hvs1 w.drawn) (a := ⟨L.blk, L.off + 0, none⟩) ?_, ⟨L, k, by rw [e1]; exact q1, rfl, hroom, hk2, hk3⟩, q2⟩
        rw [Addr.add_mid, o4, Nat.zero_add]
        exact hst
      · -- a new array
        have e1 := (put_ok hbl h14).1
        have hf1 : Fresh ρ s1.next r.2.next := by rw [e1]; exact hf
        have hload : ∀ d, (Builtin.firstCells g n (.slice (some ⟨L.blk, L.off + 0, none⟩) n k)).run P { w with drawn := d } = .ok (((List.range (n * g)).map fun j => (w.cell? ⟨L.blk, L.off + j, none⟩).getD undef)).toArray { w with drawn := d } := fun d => by
          have := run_loadCells_list (P := P) { w with drawn := d } ⟨L.blk, L.off + 0, none⟩ ((List.range (n * g)).map fun j => (w.cell? ⟨L.blk, L.off + j, none⟩).getD undef) (fun j v hj => by
            rw [Addr.add_mid]
            have hjn : j < n * g := by have := (List.getElem?_eq_some_iff.1 hj).1; simpa using this
            obtain ⟨u, hu, _⟩ := o1 j cs[j] (by simp)
            simp [hjn, hu] at hj
            subst hj
            rw [Nat.add_zero]
            exact hu)
          simp only [List.length_map, List.length_range] at this
          exact this
        obtain ⟨u2, w2, ρ2, q1, q2, q3⟩ := appendNew_ok T hkill.wrel hf1 h (hm w.drawn) (by omega) hload hvs1 (by simp) hvl (hold.append hvs2)
        exact ⟨u2, w2, ρ2, q1, q2, hkill.trans (fun i h1 h2 => hf i h1 (by have := q3.next; omega)) q3⟩
  · cases h

/-! ### The others -/
theorem lenA_ok {t : TypeId} {x : AVal} {n : Nat} {u : Value} {tp : TypeId} (hw : WRel σ N0 w0 ρ s w) (h : lenA P s t x = .ok n) (hu : VRel σ ρ x u) : (Builtin.len_ #[t] tp #[u]).run P w = .ok (goInt n) w := by
  unfold lenA at h
  replace h := R.bind_ok' h
  obtain ⟨d, h1, h⟩ := h
  have und := run_und h1 w
  split at h
  · cases h
    obtain ⟨rfl, _⟩ := hu
    simp [Builtin.len_, und]
  · cases h
    simp [Builtin.len_, und]
  · rename_i b o m c
    cases h
    cases c with
    | known k => obtain ⟨L, _, rfl⟩ := hu; simp [Builtin.len_, und]
    | grown g => obtain ⟨L, k, _, rfl, _⟩ := hu; simp [Builtin.len_, und]
  · cases h
    obtain ⟨rfl, _⟩ := hu
    simp [Builtin.len_, und]
  · cases h
    obtain ⟨rfl, _⟩ := hu
    simp [Builtin.len_, und]
  · replace h := R.bind_ok' h
    obtain ⟨o, h2, h⟩ := h
    split at h
    · rename_i es c
      cases h
      obtain ⟨L, hL, rfl⟩ := hu
      obtain ⟨ms, hm, hr⟩ := hw.heap _ _ (get_ok h2) L hL
      have := hr.length
      simp at this
      simp [Builtin.len_, und, run_getMap hm, this]
    · cases h
  · cases h

theorem oneInt_ok {a : AVal} {k : IntKind} {n : Int} {u : Value} (h : oneInt a = .ok (k, n)) (hv : VRel σ ρ a u) : u = .int k n := by
  unfold oneInt at h
  split at h
  · cases h; exact hv.1
  · cases h

theorem foldMin_ok {k : IntKind} : ∀ {l : List AVal} {us : List Value} {a : Int} {r : AVal}, foldInt minI k a l = .ok r → VRels σ ρ l us → ∃ u, (us.foldlM Builtin.min2 (.int k a)).run P w = .ok u w ∧ VRel σ ρ r u
  | [], us, a, r, h, hv => by
    cases h
    simp only [VRels] at hv
    subst hv
    exact ⟨.int k a, rfl, rfl, rfl⟩
  | x :: l, us, a, r, h, hv => by
    obtain ⟨u, ut, rfl, h1, h2⟩ := hv
    unfold foldInt at h
    replace h := R.bind_ok' h
    obtain ⟨⟨k', b⟩, h3, h⟩ := h
    have := oneInt_ok h3 h1
    subst this
    obtain ⟨v, h4, h5⟩ := foldMin_ok h h2
    refine ⟨v, ?_, h5⟩
    rw [List.foldlM_cons, Sem.run_bind]
    exact h4

theorem foldMax_ok {k : IntKind} : ∀ {l : List AVal} {us : List Value} {a : Int} {r : AVal}, foldInt maxI k a l = .ok r → VRels σ ρ l us → ∃ u, (us.foldlM Builtin.max2 (.int k a)).run P w = .ok u w ∧ VRel σ ρ r u
  | [], us, a, r, h, hv => by
    cases h
    simp only [VRels] at hv
    subst hv
    exact ⟨.int k a, rfl, rfl, rfl⟩
  | x :: l, us, a, r, h, hv => by
    obtain ⟨u, ut, rfl, h1, h2⟩ := hv
    unfold foldInt at h
    replace h := R.bind_ok' h
    obtain ⟨⟨k', b⟩, h3, h⟩ := h
    have := oneInt_ok h3 h1
    subst this
    obtain ⟨v, h4, h5⟩ := foldMax_ok h h2
    refine ⟨v, ?_, h5⟩
    rw [List.foldlM_cons, Sem.run_bind]
    exact h4

theorem deleteA_ok {t tp : TypeId} {ts : Array TypeId} {m k : AVal} {r : AVal × AState} {u v : Value} (hw : WRel σ N0 w0 ρ s w) (h : deleteA P s t m k = .ok r) (hu : VRel σ ρ m u) (hv : VRel σ ρ k v) (hts : ts[0]? = some t) :
    BSem P σ N0 w0 (Builtin.delete_ ts tp #[u, v]) ρ s w r := by
  unfold deleteA at h
  replace h := R.bind_ok' h
  obtain ⟨el, h1, h⟩ := h
  replace h := R.bind_ok' h
  obtain ⟨kv, h2, h⟩ := h
  replace h := R.bind_ok' h
  obtain ⟨⟨b, es, c⟩, h3, h⟩ := h
  replace h := R.bind_ok' h
  obtain ⟨q, h4, h⟩ := h
  obtain ⟨key, kd, ht, hkd⟩ := intKey_ok h1
  obtain ⟨rfl, j, n, rfl⟩ := asKey_ok h2 hv
  obtain ⟨L, ms, hL, rfl, hb, hmm, hr⟩ := mapOf_ok hw h3 hu
  have hck : ∀ b, (Instr.checkKey b 10000 key (.int j n)).run P w = .ok () w := fun b => checkKey_int b 9999 hkd w
  have hlt : L.blk < w.heap.size := (hw.rng b L hL).1
  obtain ⟨q', h5, h6⟩ := findKey_ok (P := P) hkd hr h4 w
  cases q with
  | none =>
    cases q' with
    | some _ => exact h6.elim
    | none =>
      cases h
      refine ⟨.tuple #[], World.setObj w L.blk (.map ms c), ρ, ?_, VRel.undef, Post.of_heap hw (fun x => ?_) (by simp [World.setObj]) rfl rfl rfl⟩
      · simp only [Builtin.delete_, hts, List.getElem?_toArray, List.getElem?_cons_zero, List.getElem?_cons_succ, Sem.run_bind, run_underlying ht, Result.andThen_ok, run_getMap hmm, hck, h5, run_setMap hmm, Sem.run_pure]
      · by_cases hx : x = L.blk
        · subst hx; rw [heap_setObj_eq w _ _ hlt, hmm]
        · exact heap_setObj_ne w _ _ _ hx
  | some qv =>
    cases q' with
    | none => exact h6.elim
    | some qv' =>
      obtain ⟨i, x⟩ := qv
      obtain ⟨i', x'⟩ := qv'
      obtain ⟨rfl, _, y, g5, _⟩ := h6
      replace h := R.bind_ok' h
      obtain ⟨s1, h7, h⟩ := h
      cases h
      have hi : i < ms.size := by
        have h1 := (List.getElem?_eq_some_iff.1 g5).1
        have h2 := hr.length
        simp at h2; omega
      have hpost := Post.setObj (O := .map (ms.eraseIdxIfInBounds i) c) hw hb hL h7 ⟨_, heap_setObj_eq w _ _ hlt, by
        have : (ms.eraseIdxIfInBounds i).toList = ms.toList.eraseIdx i := by simp [Array.eraseIdxIfInBounds, hi]
        rw [this]
        exact hr.eraseIdx i⟩
      refine ⟨.tuple #[], _, ρ, ?_, VRel.undef, hpost⟩
      simp only [Builtin.delete_, hts, List.getElem?_toArray, List.getElem?_cons_zero, List.getElem?_cons_succ, Sem.run_bind, run_underlying ht, Result.andThen_ok, run_getMap hmm, hck, h5, run_setMap hmm, Sem.run_pure]

theorem copyA_ok {t tp : TypeId} {ts : Array TypeId} {x y : AVal} {r : AVal × AState} {u v : Value} (hw : WRel σ N0 w0 ρ s w) (h : copyA P s t x y = .ok r) (hu : VRel σ ρ x u) (hv : VRel σ ρ y v) (hts : ts[0]? = some t) :
    BSem P σ N0 w0 (Builtin.copy_ ts tp #[u, v]) ρ s w r := by
  unfold copyA at h
  replace h := R.bind_ok' h
  obtain ⟨d, h1, h⟩ := h
  split at h
  case h_2 => cases h
  rename_i el
  replace h := R.bind_ok' h
  obtain ⟨esz, h2, h⟩ := h
  replace h := R.bind_ok' h
  obtain ⟨n, h3, h⟩ := h
  replace h := R.bind_ok' h
  obtain ⟨m, h4, h⟩ := h
  replace h := R.bind_ok' h
  obtain ⟨new, h5, h⟩ := h
  obtain ⟨⟨xb, xk, rfl⟩, hx⟩ := lenOfA_ok h3 hu
  obtain ⟨⟨yb, yk, rfl⟩, hy⟩ := lenOfA_ok h4 hv
  obtain ⟨vs, k1, k2, _⟩ := sliceCells_ok (P := P) hw h5 hv
  have k1' : (Builtin.firstCells esz (min m n) (.slice yb m yk)).run P w = .ok vs.toArray w := k1 w.drawn
  have hsz := run_sz h2 w
  have hund := run_und h1 w
  have hmin : Nat.min m n = min m n := rfl
  unfold copyTo at h
  split at h
  · rename_i b o l c
    replace h := R.bind_ok' h
    obtain ⟨s1, h6, h⟩ := h
    cases h
    have : ∃ L, ρ b = some L ∧ xb = some ⟨L.blk, L.off + o, none⟩ := by
      cases c with
      | known k => obtain ⟨L, g1, g2⟩ := hu; cases g2; exact ⟨L, g1, rfl⟩
      | grown g => obtain ⟨L, k, g1, g2, _⟩ := hu; cases g2; exact ⟨L, g1, rfl⟩
    obtain ⟨L, hL, rfl⟩ := this
    obtain ⟨g1, g2⟩ := storeCells_ok (P := P) hw h6 hL k2
    refine ⟨goInt (min m n : Nat), _, ρ, ?_, ⟨rfl, rfl⟩, g2⟩
    simp [Builtin.copy_, hts, hund, hsz, Builtin.lenOf, hmin, k1', g1]
  · cases h
    obtain ⟨g1, _⟩ := hu
    cases g1
    refine VSem.pure hw (u := goInt (min m n : Nat)) ?_ ⟨rfl, rfl⟩
    simp [Builtin.copy_, hts, hund, hsz, Builtin.lenOf, hmin, k1']
  · cases h

theorem clearA_ok {t tp : TypeId} {ts : Array TypeId} {x : AVal} {r : AVal × AState} {u : Value} (hw : WRel σ N0 w0 ρ s w) (h : clearA P s t x = .ok r) (hu : VRel σ ρ x u) (hts : ts[0]? = some t) :
    BSem P σ N0 w0 (Builtin.clear_ ts tp #[u]) ρ s w r := by
  unfold clearA at h
  replace h := R.bind_ok' h
  obtain ⟨d, h1, h⟩ := h
  split at h
  case h_2 => cases h
  rename_i el b o n c
  replace h := R.bind_ok' h
  obtain ⟨z, h2, h⟩ := h
  replace h := R.bind_ok' h
  obtain ⟨s1, h3, h⟩ := h
  cases h
  have : ∃ L k, ρ b = some L ∧ u = .slice (some ⟨L.blk, L.off + o, none⟩) n k := by
    cases c with
    | known k => obtain ⟨L, g1, g2⟩ := hu; exact ⟨L, k, g1, g2⟩
    | grown g => obtain ⟨L, k, g1, g2, _⟩ := hu; exact ⟨L, k, g1, g2⟩
  obtain ⟨L, k, hL, rfl⟩ := this
  obtain ⟨zv, hz1, hz2⟩ := zeroOf_ok (σ := σ) h2
  have hzl := (hz2 ρ).cells'.length
  simp only [Array.length_toList] at hzl
  have hrow := repl_ok (σ := σ) (ρ := ρ) (n := n) (k := n * zv.cells.size) (hz2 ρ).cells' (by rw [hzl])
  obtain ⟨g1, g2⟩ := storeCells_ok (P := P) hw h3 hL hrow
  have hund := run_und h1 w
  cases n with
  | zero =>
    have he : (Array.map (zv.cells[· % zv.cells.size]!) (Array.range (0 * zv.cells.size))).toList = [] := by simp
    rw [he] at g2
    refine ⟨.tuple #[], w, ρ, ?_, VRel.undef, g2⟩
    simp [Builtin.clear_, hts, hund]
  | succ n =>
    refine ⟨.tuple #[], _, ρ, ?_, VRel.undef, g2⟩
    simp only [Builtin.clear_, hts, List.getElem?_toArray, List.getElem?_cons_zero, Sem.run_bind, hund, Result.andThen_ok, hz1, Builtin.zeroCells, g1, Sem.run_pure]

end
end Go.Am


/-
  The abstract machine's operations against the model's: all of them.
-/
namespace Go.Am
open Go Go.RowKit
set_option linter.unusedVariables false
set_option linter.unusedSimpArgs false

section
variable {σ : Syms} {N0 : Nat} {w0 : World} {P : Program} {ev : Operand → R AVal} {e : Operand → Value} {ρ : Ren} {s s' : AState} {w : World} {nx : ANext}

theorem two {α : Type} {ts : Array α} {a b : α} (h : ts.toList = [a, b]) : ts = #[a, b] := by rw [← Array.toArray_toList (xs := ts), h]

theorem first_of {ts : Array TypeId} {t : TypeId} {r : List TypeId} (h : ts.toList = t :: r) : ts[0]? = some t := by
  rw [← Array.getElem?_toList, h]; rfl

theorem abuiltin_ok {b : Builtin} {ts : Array TypeId} {tp : TypeId} {consts : Array Bool} {args : List AVal} {us : Array Value} {r : AVal × AState} (hw : WRel σ N0 w0 ρ s w) (hf : Fresh ρ s.next r.2.next) (h : abuiltin P s b ts.toList args = .ok r) (hu : VRels σ ρ args us.toList) :
    NSem P σ N0 w0 (Go.builtin b ts tp consts us) ρ s w (.val r.1) r.2 := by
  unfold abuiltin at h
  split at h
  · -- append
    obtain ⟨u, us1, h1, h2, v, us2, h3, h4, h5⟩ := hu
    simp only [VRels] at h5
    subst h5; subst h3
    split at h
    · rename_i t t' ht
      have := two h1
      subst this
      rw [two ht]
      exact NSem.of_v (appendA_ok hw hf h h2 h4)
    · cases h
  · -- len
    obtain ⟨u, us1, h1, h2, h3⟩ := hu
    simp only [VRels] at h3
    subst h3
    split at h
    · rename_i t ht
      replace h := R.bind_ok' h
      obtain ⟨n, h4, h⟩ := h
      cases h
      have e1 : us = #[u] := by rw [← Array.toArray_toList (xs := us), h1]
      have e2 : ts = #[t] := by rw [← Array.toArray_toList (xs := ts), ht]
      subst e1; subst e2
      exact NSem.of_v (VSem.pure hw (lenA_ok hw h4 h2) ⟨rfl, rfl⟩)
    · cases h
  · -- min
    obtain ⟨u, us1, h1, h2, h3⟩ := hu
    replace h := R.bind_ok' h
    obtain ⟨v, h4, h⟩ := h
    cases h
    unfold foldA at h4
    replace h4 := R.bind_ok' h4
    obtain ⟨⟨k, a⟩, h5, h4⟩ := h4
    have := oneInt_ok h5 h2
    subst this
    obtain ⟨z, h6, h7⟩ := foldMin_ok (P := P) (w := w) h4 h3
    refine NSem.of_v (VSem.pure hw (u := z) ?_ h7)
    simp only [Builtin.min_, h1]
    exact h6
  · -- max
    obtain ⟨u, us1, h1, h2, h3⟩ := hu
    replace h := R.bind_ok' h
    obtain ⟨v, h4, h⟩ := h
    cases h
    unfold foldA at h4
    replace h4 := R.bind_ok' h4
    obtain ⟨⟨k, a⟩, h5, h4⟩ := h4
    have := oneInt_ok h5 h2
    subst this
    obtain ⟨z, h6, h7⟩ := foldMax_ok (P := P) (w := w) h4 h3
    refine NSem.of_v (VSem.pure hw (u := z) ?_ h7)
    simp only [Builtin.max_, h1]
    exact h6
  · -- delete
    obtain ⟨u, us1, h1, h2, v, us2, h3, h4, h5⟩ := hu
    simp only [VRels] at h5
    subst h5; subst h3
    split at h
    · rename_i t r' ht
      have := two h1
      subst this
      exact NSem.of_v (deleteA_ok hw h h2 h4 (first_of ht))
    · cases h
  · -- copy
    obtain ⟨u, us1, h1, h2, v, us2, h3, h4, h5⟩ := hu
    simp only [VRels] at h5
    subst h5; subst h3
    split at h
    · rename_i t r' ht
      have := two h1
      subst this
      exact NSem.of_v (copyA_ok hw h h2 h4 (first_of ht))
    · cases h
  · -- clear
    obtain ⟨u, us1, h1, h2, h3⟩ := hu
    simp only [VRels] at h3
    subst h3
    split at h
    · rename_i t r' ht
      have e1 : us = #[u] := by rw [← Array.toArray_toList (xs := us), h1]
      subst e1
      exact NSem.of_v (clearA_ok hw h h2 (first_of ht))
    · cases h
  · -- complex
    rename_i k a k' b
    obtain ⟨u, us1, h1, h2, v, us2, h3, h4, h5⟩ := hu
    simp only [VRels] at h5
    subst h5; subst h3
    have := two h1
    subst this
    cases hq : decide (k = k') with
    | false => rw [hq] at h; cases h
    | true =>
      rw [hq, cond_true] at h
      cases h
      have hk := of_decide_eq_true hq
      subst hk
      obtain ⟨rfl, _⟩ := h2
      obtain ⟨rfl, _⟩ := h4
      exact NSem.of_v (VSem.pure hw (u := .complex k a b) (by show (if k = k then pure _ else _ : Sem Value).run P w = _; rw [if_pos rfl]; rfl) ⟨rfl, rfl⟩)
  · obtain ⟨u, us1, h1, h2, h3⟩ := hu
    simp only [VRels] at h3
    subst h3
    cases h
    have e1 : us = #[u] := by rw [← Array.toArray_toList (xs := us), h1]
    subst e1
    obtain ⟨rfl, _⟩ := h2
    exact NSem.of_v (VSem.pure hw rfl ⟨rfl, rfl⟩)
  · obtain ⟨u, us1, h1, h2, h3⟩ := hu
    simp only [VRels] at h3
    subst h3
    cases h
    have e1 : us = #[u] := by rw [← Array.toArray_toList (xs := us), h1]
    subst e1
    obtain ⟨rfl, _⟩ := h2
    exact NSem.of_v (VSem.pure hw rfl ⟨rfl, rfl⟩)
  · cases h

/-- A call of a Go function. -/
def ESem (P : Program) (σ : Syms) (sem : Sem Next) (ρ : Ren) (s : AState) (w : World) (nx : ANext) (s' : AState) : Prop :=
  ∃ f args us, nx = .enter f args ∧ s' = s ∧ plainFn P f = true ∧ VRels σ ρ args us.toList ∧ sem.run P w = .ok (.enter f us) w

theorem plainFn_ok {f : FuncId} (h : plainFn P f = true) (args : Array Value) (w : World) : (callFunc f args).run P w = .ok (.enter f args) w := by
  unfold plainFn at h
  split at h
  · rename_i fn hfn
    simp only [Bool.and_eq_true, bne_iff_ne, ne_eq] at h
    unfold callFunc
    simp only [Sem.run_bind, run_program, Result.andThen_ok, hfn]
    have h1 : (fn.name == "runtime.NumGoroutine") = false := by simpa using h.2
    have h2 : fn.body.isNone = false := by
      cases hb : fn.body with
      | none => rw [hb] at h; simp at h
      | some c => rfl
    simp [h1, h2]
  · cases h

theorem call_op {c : Call} {tp : TypeId} (hw : WRel σ N0 w0 ρ s w) (hf : Fresh ρ s.next s'.next) (hx : ∀ x ∈ c.operands.toList, EvOk σ ρ ev e x) (h : opCall P ev c s = .ok (nx, s')) :
    NSem P σ N0 w0 (do let d ← resolve e c tp; invoke d.target d.args) ρ s w nx s' ∨ ESem P σ (do let d ← resolve e c tp; invoke d.target d.args) ρ s w nx s' := by
  unfold opCall at h
  replace h := R.bind_ok' h
  obtain ⟨args, h1, h⟩ := h
  have hargs : VRels σ ρ args (c.args.map e).toList := by
    rw [Array.toList_map]
    refine evs_ok (fun x hx' => hx x ?_) h1
    unfold Call.operands
    simp only [Array.toList_append, List.mem_append]
    exact .inr hx'
  split at h
  · rename_i b hb
    replace h := R.bind_ok' h
    obtain ⟨⟨v, s1⟩, h2, h⟩ := h
    obtain ⟨rfl, rfl⟩ := okv_ok h
    left
    have := abuiltin_ok (r := (v, s')) (tp := tp) (consts := c.args.map fun | .const _ => true | _ => false) hw hf h2 hargs
    obtain ⟨v', e1, u, w', ρ', e2, e3⟩ := this
    refine ⟨v', e1, u, w', ρ', ?_, e3⟩
    simp only [resolve, hb, Sem.run_bind, Sem.run_pure, Result.andThen_ok, invoke]
    exact e2
  · rename_i f hcf
    replace h := R.bind_ok' h
    obtain ⟨fv, h2, h⟩ := h
    split at h
    · rename_i fi caps
      replace h := R.bind_ok' h
      obtain ⟨_, h3, h⟩ := h
      cases h
      right
      have hfo : f ∈ c.operands.toList := by
        unfold Call.operands
        rw [hcf]
        simp
      obtain ⟨cs, hfe, hcs⟩ := hx f hfo _ h2
      refine ⟨fi, _, c.args.map e ++ cs, rfl, rfl, guardR_ok h3, ?_, ?_⟩
      · rw [Array.toList_append]; exact hargs.append hcs
      · simp only [resolve, hcf, hfe, Deferred.ofValue, Sem.run_bind, Sem.run_pure, Result.andThen_ok, invoke]
        simp only [Array.empty_append]
        exact plainFn_ok (guardR_ok h3) _ w
    · cases h
  · cases h

theorem ERels.left (seen : List Nat) : ∀ {es : List AEntry} {ms : List MapEntry}, ERels σ ρ es ms → ERels σ ρ (leftA es seen) (ms.filter fun e => !seen.toArray.contains e.born)
  | [], ms, h => by simp only [ERels] at h; subst h; rfl
  | e :: r, ms, ⟨m, ns, h, h2, h3, h4, h5⟩ => by
    subst h
    have ih := ERels.left seen h5
    unfold leftA at ih ⊢
    rw [List.filter_cons, List.filter_cons]
    have hq : (!seen.toArray.contains m.born) = (!seen.contains e.born) := by rw [h3]; simp
    rw [hq]
    cases hb : (!seen.contains e.born) with
    | true => simp only [if_true]; exact ⟨m, _, rfl, h2, h3, h4, ih⟩
    | false => simp only [Bool.false_eq_true, if_false]; exact ih

theorem ERels.mem : ∀ {es : List AEntry} {ms : List MapEntry}, ERels σ ρ es ms → ∀ m ∈ ms, ∃ e ∈ es, m.key = e.key ∧ m.born = e.born ∧ VRel σ ρ e.val m.val
  | [], ms, h, m, hm => by simp only [ERels] at h; subst h; cases hm
  | e :: r, ms, ⟨m', ns, h, h2, h3, h4, h5⟩, m, hm => by
    subst h
    rcases List.mem_cons.1 hm with rfl | hm
    · exact ⟨e, List.mem_cons_self .., h2, h3, h4⟩
    · obtain ⟨e', he, h⟩ := ERels.mem h5 m hm
      exact ⟨e', List.mem_cons_of_mem _ he, h⟩

theorem run_next_nx {it : Operand} {tp : TypeId} {u : Value} {w' : World} {x : Value} (hx : e it = x) (h : (Instr.next x false tp).run P w = .ok u w') : (do pure (Next.value (← Instr.next (e it) false tp)) : Sem Next).run P w = .ok (.value u) w' := by
  rw [hx, Sem.run_bind, h]
  rfl

theorem next_nil {it : Operand} {tp : TypeId} (hw : WRel σ N0 w0 ρ s w) (hx : EvOk σ ρ ev e it) (h : opNext ev it s = .ok (nx, s')) (hnc : ∀ n k, nx ≠ .choose n k) :
    NSem P σ N0 w0 (do pure (.value (← Instr.next (e it) false tp))) ρ s w nx s' := by
  unfold opNext at h
  replace h := R.bind_ok' h
  obtain ⟨xa, h1, h⟩ := h
  replace h := R.bind_ok' h
  obtain ⟨⟨r, o⟩, h2, h⟩ := h
  replace h := R.bind_ok' h
  obtain ⟨_, h3, h⟩ := h
  replace h := R.bind_ok' h
  obtain ⟨ob, h4, h⟩ := h
  have h3 := Nat.eq_of_beq_eq_true (guardR_ok h3)
  replace h3 : o = 0 := h3
  obtain ⟨L, hL, hp⟩ := asPtr_ok h2 (hx _ h1)
  split at h
  · obtain ⟨rfl, rfl⟩ := okv_ok h
    obtain ⟨hi0, m', hi1, hi2⟩ := hw.heap _ _ (get_ok h4) L hL
    cases m' with
    | some _ => exact hi2.elim
    | none =>
      refine NSem.of_v (VSem.pure hw (u := .tuple #[.bool false]) ?_ ⟨#[.bool false], rfl, .bool false, [], rfl, ⟨rfl, rfl⟩, rfl⟩)
      rw [hp, hi0, h3]
      simp only [Instr.next, Sem.run_bind, Nat.add_zero, run_getIter hi1, Result.andThen_ok]
      rfl
  · rename_i m since seen last
    replace h := R.bind_ok' h
    obtain ⟨mo, h5, h⟩ := h
    split at h
    · rename_i es c
      replace h := R.bind_ok' h
      obtain ⟨_, h6, h⟩ := h
      have h6 := guardR_ok h6
      simp only [Bool.and_eq_true] at h6
      have hsl := Nat.le_of_ble_eq_true h6.1
      obtain ⟨hi0, m', hi1, hi2⟩ := hw.heap _ _ (get_ok h4) L hL
      have hpe : e it = .pointer (some ⟨L.blk, 0, none⟩) := by rw [hp, hi0]; subst h3; rfl
      cases m' with
      | none => exact hi2.elim
      | some bm =>
        obtain ⟨M1, hM, rfl⟩ := hi2
        obtain ⟨ms, hm1, hm2⟩ := hw.heap _ _ (get_ok h5) M1 hM
        have hleft := ERels.left (σ := σ) (ρ := ρ) seen hm2
        have hlen : (leftOf ms seen.toArray).toList = ms.toList.filter fun e => !seen.toArray.contains e.born := by unfold leftOf; rw [Array.toList_filter]
        have hold' : ∀ x ∈ ms.toList, x.born < since := fun x hx => by
          obtain ⟨a, ha, _, k2, _⟩ := hm2.mem x hx
          rw [k2]
          exact Nat.le_of_ble_eq_true (List.all_eq_true.1 h6.2 a ha)
        have hrun := run_next_at (P := P) w tp L.blk M1.blk since last seen.toArray ms c hi1 hm1 hold' hsl
        split at h
        · rename_i hl
          obtain ⟨rfl, rfl⟩ := okv_ok h
          rcases hrun with ⟨_, hrun⟩ | ⟨a, ha, _⟩
          · exact NSem.of_v (VSem.pure hw (u := .tuple #[.bool false]) (by rw [hpe]; exact hrun) ⟨#[.bool false], rfl, .bool false, [], rfl, ⟨rfl, rfl⟩, rfl⟩)
          · rw [hlen] at ha
            obtain ⟨a', ha', _⟩ := hleft.mem a ha
            rw [hl] at ha'
            cases ha'
        · rename_i a hl
          replace h := R.bind_ok' h
          obtain ⟨_, h7, h⟩ := h
          replace h := R.bind_ok' h
          obtain ⟨s1, h8, h⟩ := h
          obtain ⟨rfl, rfl⟩ := okv_ok h
          have hk1 := guardR_ok h7
          rcases hrun with ⟨h0, _⟩ | ⟨a', ha', w1, hw1, hrun⟩
          · exfalso
            have k1 := hleft.length
            rw [← hlen, Array.length_toList, h0, hl] at k1
            simp at k1
          · rw [hlen] at ha'
            obtain ⟨a2, ha2, k1, k2, k3⟩ := hleft.mem a' ha'
            rw [hl] at ha2
            obtain rfl := List.mem_singleton.1 ha2
            have hro : s.ro ≤ r := (write_ok' h8).1
            have hN := (hw.rng r L hL).2.1 hro
            have hlt := (hw.rng r L hL).1
            have e1 : w1.heap = w.heap := by rcases hw1 with rfl | rfl <;> rfl
            have hbl : Below N0 w (ChangeMaps.setBlock w1 L.blk (.mapIter (some M1.blk) since (seen.toArray.push a'.born) c)) := by
              have hb1 : Below N0 w w1 := by rcases hw1 with rfl | rfl; exact Below.refl _ _; exact (Below.refl _ _).drew
              refine ⟨hb1.os, hb1.tape, hb1.output, by simp [ChangeMaps.setBlock, e1], fun k hk => ?_⟩
              simp only [ChangeMaps.setBlock, e1]
              rw [Array.getElem?_setIfInBounds, if_neg (by omega)]
            have hP := Post.write hw h8 (by rw [get_ok h4]; simp) hL hbl (by simp [ChangeMaps.setBlock, e1]) (fun k hk => by
              simp only [ChangeMaps.setBlock, e1]
              rw [Array.getElem?_setIfInBounds, if_neg (fun h => hk h.symm)]) (show ORel σ ρ L true _ (.iter (some m) since (seen ++ [a2.born]) c) from
              ⟨hi0, some M1.blk, by simp [ChangeMaps.setBlock, e1, hlt, k2], M1, hM, rfl⟩)
            exact NSem.of_v ⟨.tuple #[.bool true, a'.key, a'.val], _, ρ, by rw [hpe]; exact hrun, ⟨#[.bool true, a'.key, a'.val], rfl, .bool true, [a'.key, a'.val], rfl, ⟨rfl, rfl⟩, a'.key, [a'.val], rfl, ⟨k1, hk1⟩, a'.val, [], rfl, k3, rfl⟩, hP⟩
        · cases h
          exact absurd rfl (hnc _ _)
    · cases h
  · cases h

theorem aop_sound {o : Oper} (hw : WRel σ N0 w0 ρ s w) (hf : Fresh ρ s.next s'.next) (hx : ∀ x ∈ o.op.operands.toList, EvOk σ ρ ev e x) (h : aop P ev o s = .ok (nx, s')) (hnc : ∀ n k, nx ≠ .choose n k) :
    NSem P σ N0 w0 (execOp e o) ρ s w nx s' ∨ ESem P σ (execOp e o) ρ s w nx s' := by
  unfold aop at h
  unfold execOp
  generalize o.op = op at *
  cases op with
  | move x => exact .inl (move_ok hw (hx _ (by simp [Op.operands])) h)
  | assign x => exact .inl (move_ok hw (hx _ (by simp [Op.operands])) h)
  | pick c a b => exact .inl (pick_ok hw (hx _ (by simp [Op.operands])) (hx _ (by simp [Op.operands])) (hx _ (by simp [Op.operands])) h)
  | alloc t => exact .inl (alloc_op hw hf h)
  | box t x => exact .inl (box_op hw hf (hx _ (by simp [Op.operands])) h)
  | build t ps => exact .inl (build_op hw (fun x hm => hx x (by simpa [Op.operands] using hm)) h)
  | buildSlice t n ps => exact .inl (buildSlice_op hw hf (fun x hm => hx x (by simpa [Op.operands] using hm)) h)
  | insert t m k v => exact .inl (mapUpdate_op hw (hx _ (by simp [Op.operands])) (hx _ (by simp [Op.operands])) (hx _ (by simp [Op.operands])) h)
  | load t x => exact .inl (load_ok hw (hx _ (by simp [Op.operands])) h)
  | store t x v => exact .inl (store_ok hw (hx _ (by simp [Op.operands])) (hx _ (by simp [Op.operands])) h)
  | nilCheck x =>
    obtain ⟨v, rfl, rfl, hv, n1, n2, n3, n4⟩ := nilCheck_ok (P := P) hw (hx x (by simp [Op.operands])) h
    refine .inl ⟨v, rfl, e x, w, ρ, .inl ?_, hv, Post.refl hw⟩
    simp only []
    generalize e x = ex at *
    cases ex with
    | pointer a => cases a with
      | none => exact absurd rfl n1
      | some a => rfl
    | nilIface => exact absurd rfl n2
    | nilFunc => exact absurd rfl n3
    | func fn a b => cases fn with
      | method n => exact absurd rfl (n4 n a b)
      | _ => rfl
    | _ => rfl
  | binOp op t x y yt => exact .inl (binOp_ok hw (hx _ (by simp [Op.operands])) (hx _ (by simp [Op.operands])) h)
  | unOp op t x => exact .inl (unOp_ok hw (hx _ (by simp [Op.operands])) h)
  | convert a b x => exact .inl (convert_ok hw (hx _ (by simp [Op.operands])) h)
  | makeFunc fn first caps => cases fn with
    | func f => exact .inl (makeFunc_ok hw (fun x hm => hx x (by simp only [Op.operands, Array.toList_append, List.mem_append]; exact .inr hm)) h)
    | _ => cases h
  | makeMap t r => cases r with
    | none => exact .inl (makeMap_op hw hf h)
    | some _ => cases h
  | makeSlice t l c => exact .inl (makeSlice_op hw hf (hx _ (by simp [Op.operands])) (hx _ (by simp [Op.operands])) h)
  | slice t x lo hi mx => exact .inl (slice_op hw (hx _ (by simp [Op.operands])) (fun y hy => hx y (by subst hy; simp [Op.operands])) (fun y hy => hx y (by subst hy; simp [Op.operands])) (fun y hy => hx y (by subst hy; simp [Op.operands])) h)
  | fieldAddr t x f => exact .inl (fieldAddr_ok hw (hx _ (by simp [Op.operands])) h)
  | field t x f => exact .inl (field_ok hw (hx _ (by simp [Op.operands])) h)
  | indexAddr t x i => exact .inl (indexAddr_ok hw (hx _ (by simp [Op.operands])) (hx _ (by simp [Op.operands])) h)
  | index t x i => exact .inl (index_ok hw (hx _ (by simp [Op.operands])) (hx _ (by simp [Op.operands])) h)
  | lookup t x k ok => exact .inl (lookup_op hw (hx _ (by simp [Op.operands])) (hx _ (by simp [Op.operands])) h)
  | mapUpdate t m k v => exact .inl (mapUpdate_op hw (hx _ (by simp [Op.operands])) (hx _ (by simp [Op.operands])) (hx _ (by simp [Op.operands])) h)
  | mapEntry t m k => exact .inl (mapEntry_op hw (hx _ (by simp [Op.operands])) (hx _ (by simp [Op.operands])) h)
  | entryStore t m st v => exact .inl (entryStore_op hw (hx _ (by simp [Op.operands])) (hx _ (by simp [Op.operands])) (hx _ (by simp [Op.operands])) h)
  | range t x => exact .inl (range_op hw hf (hx _ (by simp [Op.operands])) h)
  | next it b => cases b with
    | false => exact .inl (next_nil hw (hx _ (by simp [Op.operands])) h hnc)
    | true => cases h
  | entry it => exact .inl (entry_op hw (hx _ (by simp [Op.operands])) h)
  | extract t i => exact .inl (extract_ok hw (hx _ (by simp [Op.operands])) h)
  | call c => exact call_op hw hf (fun x hm => hx x (by simpa [Op.operands] using hm)) h
  | _ => cases h

end
end Go.Am


/-
  The abstract machine by itself: what its operations leave alone.
-/
namespace Go.Am
open Go Go.RowKit
set_option linter.unusedVariables false
set_option linter.unusedSimpArgs false

structure Abs (s s' : AState) : Prop where
  next : s.next ≤ s'.next
  ro : s'.ro = s.ro
  low : s'.low ≤ s.low
  same : ∀ b, b < s.next → b < s'.low → s'.heap.get b = s.heap.get b
  live : ∀ b, b < s.next → s'.heap.get b ≠ none → s.heap.get b ≠ none
  dom : (∀ b, s.heap.get b ≠ none → b < s.next) → ∀ b, s'.heap.get b ≠ none → b < s'.next
  top : s.next ≤ lim + 1 → s'.next ≤ lim + 1

theorem Abs.refl (s : AState) : Abs s s := ⟨Nat.le_refl _, rfl, Nat.le_refl _, fun _ _ _ => rfl, fun _ _ h => h, fun h => h, fun h => h⟩

theorem Abs.trans {s s1 s2 : AState} (h : Abs s s1) (k : Abs s1 s2) : Abs s s2 := by
  have h1 := h.next; have h2 := k.next; have h3 := h.low; have h4 := k.low
  exact ⟨by omega, k.ro.trans h.ro, by omega, fun b hb hl => (k.same b (by omega) hl).trans (h.same b hb (by omega)), fun b hb hl => h.live b hb (k.live b (by omega) hl), fun hd => k.dom (h.dom hd), fun ht => k.top (h.top ht)⟩

theorem Abs.alloc {s s' : AState} {o : AObj} (h : s.alloc o = .ok s') : Abs s s' := by
  obtain ⟨⟨e1, e1'⟩, e2, e3, e4⟩ := alloc_ok h
  exact ⟨by omega, e3, by omega, fun b hb _ => by rw [e4, if_neg (by omega)], fun b hb => by rw [e4, if_neg (by omega)]; exact id, fun hd b hb => by
    rw [e4] at hb
    by_cases hq : b = s.next
    · omega
    · rw [if_neg hq] at hb; have := hd b hb; omega, fun _ => by omega⟩

theorem Abs.put {s s' : AState} {b : Nat} {o : Option AObj} (h : s.put b o = .ok s') (hl : s.heap.get b ≠ none) : Abs s s' := by
  obtain ⟨e1, e2, e3, e4⟩ := put_ok' h
  refine ⟨by omega, e3, by omega, fun a ha hb => by rw [e4, if_neg (by omega)], fun a ha => ?_, fun hd a ha => ?_, fun _ => by omega⟩
  · rw [e4]
    by_cases hq : a = b
    · subst hq; exact fun _ => hl
    · rw [if_neg hq]; exact id
  · rw [e1]
    rw [e4] at ha
    by_cases hq : a = b
    · subst hq; exact hd a hl
    · rw [if_neg hq] at ha; exact hd a ha

theorem Abs.write {s s' : AState} {b : Nat} {o : AObj} (h : s.write b o = .ok s') (hl : s.heap.get b ≠ none) : Abs s s' := by
  obtain ⟨_, e1, e2, e3, e4⟩ := write_ok' h
  refine ⟨by omega, e3, by omega, fun a ha hb => by rw [e4, if_neg (by omega)], fun a ha => ?_, fun hd a ha => ?_, fun _ => by omega⟩
  · rw [e4]
    by_cases hq : a = b
    · subst hq; exact fun _ => hl
    · rw [if_neg hq]; exact id
  · rw [e1]
    rw [e4] at ha
    by_cases hq : a = b
    · subst hq; exact hd a hl
    · rw [if_neg hq] at ha; exact hd a ha

section
variable {P : Program} {ev : Operand → R AVal} {s s' : AState} {nx : ANext}

theorem okv_abs {v : AVal} (h : okv v s = .ok (nx, s')) : Abs s s' := by
  obtain ⟨_, rfl⟩ := okv_ok h
  exact Abs.refl _

theorem storeCells_abs {b o : Nat} {vs : List AVal} (h : storeCellsA s b o vs = .ok s') : Abs s s' := by
  unfold storeCellsA at h
  replace h := R.bind_ok' h
  obtain ⟨ob, h1, h⟩ := h
  split at h
  · replace h := R.bind_ok' h
    obtain ⟨_, _, h⟩ := h
    exact Abs.write h (by rw [get_ok h1]; simp)
  · cases h

theorem mapOf_live {m : AVal} {b : Nat} {es : List AEntry} {c : Nat} (h : mapOf s m = .ok (b, es, c)) : s.heap.get b = some (.map es c) := by
  unfold mapOf at h
  split at h
  · replace h := R.bind_ok' h
    obtain ⟨o, h1, h⟩ := h
    split at h
    · cases h; exact get_ok h1
    · cases h
  · cases h

theorem appendNew_abs {esz n m : Nat} {cs : List AVal} {r : AVal × AState} (h : appendNew s esz n m cs = .ok r) : Abs s r.2 := by
  unfold appendNew at h
  simp only [allocS_eq] at h
  replace h := R.bind_ok' h
  obtain ⟨_, _, h⟩ := h
  replace h := R.bind_ok' h
  obtain ⟨s1, h1, h⟩ := h
  cases h
  exact Abs.alloc h1

theorem appendIn_abs {b o n m esz : Nat} {cap : ACap} {new : List AVal} {r : AVal × AState} (h : appendIn s b o n m esz cap new = .ok r) : Abs s r.2 := by
  unfold appendIn at h
  replace h := R.bind_ok' h
  obtain ⟨s1, h1, h⟩ := h
  cases h
  exact storeCells_abs h1

theorem appendA_abs {sT yT : TypeId} {x y : AVal} {r : AVal × AState} (h : appendA P s sT yT x y = .ok r) : Abs s r.2 := by
  unfold appendA at h
  replace h := R.bind_ok' h
  obtain ⟨d1, _, h⟩ := h
  replace h := R.bind_ok' h
  obtain ⟨d2, _, h⟩ := h
  split at h
  case h_2 => cases h
  replace h := R.bind_ok' h
  obtain ⟨_, _, h⟩ := h
  replace h := R.bind_ok' h
  obtain ⟨_, _, h⟩ := h
  replace h := R.bind_ok' h
  obtain ⟨_, _, h⟩ := h
  replace h := R.bind_ok' h
  obtain ⟨_, _, h⟩ := h
  replace h := R.bind_ok' h
  obtain ⟨_, _, h⟩ := h
  replace h := R.bind_ok' h
  obtain ⟨_, _, h⟩ := h
  replace h := R.bind_ok' h
  obtain ⟨_, _, h⟩ := h
  unfold appendTo at h
  split at h
  · replace h := R.bind_ok' h
    obtain ⟨_, _, h⟩ := h
    rename_i m _ _ _ _ _ _
    revert h
    cases Nat.beq _ 0 with
    | true => intro h; cases h; exact Abs.refl _
    | false => intro h; exact appendNew_abs h
  · rename_i n c
    revert h
    cases Nat.ble _ _ with
    | true =>
      cases Nat.beq _ 0 with
      | true => intro h; cases h; exact Abs.refl _
      | false => intro h; exact appendIn_abs h
    | false =>
      intro h
      replace h := R.bind_ok' h
      obtain ⟨_, _, h⟩ := h
      replace h := R.bind_ok' h
      obtain ⟨_, _, h⟩ := h
      exact appendNew_abs h
  · replace h := R.bind_ok' h
    obtain ⟨_, _, h⟩ := h
    replace h := R.bind_ok' h
    obtain ⟨ob, h1, h⟩ := h
    split at h
    · unfold appendGrown at h
      replace h := R.bind_ok' h
      obtain ⟨_, _, h⟩ := h
      revert h
      cases Nat.ble _ _ with
      | true => intro h; exact appendIn_abs h
      | false =>
        intro h
        replace h := R.bind_ok' h
        obtain ⟨_, _, h⟩ := h
        replace h := R.bind_ok' h
        obtain ⟨s1, h2, h⟩ := h
        exact (Abs.put h2 (by rw [get_ok h1]; simp)).trans (appendNew_abs h)
    · cases h
  · cases h

theorem abuiltin_abs {b : Builtin} {ts : List TypeId} {args : List AVal} {r : AVal × AState} (h : abuiltin P s b ts args = .ok r) : Abs s r.2 := by
  unfold abuiltin at h
  split at h
  · split at h
    · exact appendA_abs h
    · cases h
  · split at h
    · replace h := R.bind_ok' h
      obtain ⟨_, _, h⟩ := h
      cases h; exact Abs.refl _
    · cases h
  · replace h := R.bind_ok' h
    obtain ⟨_, _, h⟩ := h
    cases h; exact Abs.refl _
  · replace h := R.bind_ok' h
    obtain ⟨_, _, h⟩ := h
    cases h; exact Abs.refl _
  · split at h
    · unfold deleteA at h
      replace h := R.bind_ok' h
      obtain ⟨_, _, h⟩ := h
      replace h := R.bind_ok' h
      obtain ⟨_, _, h⟩ := h
      replace h := R.bind_ok' h
      obtain ⟨⟨b, es, c⟩, h1, h⟩ := h
      replace h := R.bind_ok' h
      obtain ⟨q, _, h⟩ := h
      cases q with
      | none => cases h; exact Abs.refl _
      | some p =>
        replace h := R.bind_ok' h
        obtain ⟨s1, h2, h⟩ := h
        cases h
        exact Abs.write h2 (by rw [mapOf_live h1]; simp)
    · cases h
  · split at h
    · unfold copyA at h
      replace h := R.bind_ok' h
      obtain ⟨_, _, h⟩ := h
      split at h
      case h_2 => cases h
      replace h := R.bind_ok' h
      obtain ⟨_, _, h⟩ := h
      replace h := R.bind_ok' h
      obtain ⟨_, _, h⟩ := h
      replace h := R.bind_ok' h
      obtain ⟨_, _, h⟩ := h
      replace h := R.bind_ok' h
      obtain ⟨_, _, h⟩ := h
      unfold copyTo at h
      split at h
      · replace h := R.bind_ok' h
        obtain ⟨s1, h2, h⟩ := h
        cases h
        exact storeCells_abs h2
      · cases h; exact Abs.refl _
      · cases h
    · cases h
  · split at h
    · unfold clearA at h
      replace h := R.bind_ok' h
      obtain ⟨_, _, h⟩ := h
      split at h
      case h_2 => cases h
      replace h := R.bind_ok' h
      obtain ⟨_, _, h⟩ := h
      replace h := R.bind_ok' h
      obtain ⟨s1, h2, h⟩ := h
      cases h
      exact storeCells_abs h2
    · cases h
  · rename_i k a k' b
    revert h
    cases decide (k = k') with
    | true => intro h; cases h; exact Abs.refl _
    | false => intro h; cases h
  · cases h; exact Abs.refl _
  · cases h; exact Abs.refl _
  · cases h

theorem mapPut_abs {b : Nat} {es : List AEntry} {c : Nat} {k : Value} {v : AVal} (h : mapPut s b es c k v = .ok s') (hl : s.heap.get b ≠ none) : Abs s s' := by
  unfold mapPut at h
  replace h := R.bind_ok' h
  obtain ⟨q, _, h⟩ := h
  cases q with
  | none => exact Abs.write h hl
  | some p => exact Abs.write h hl

theorem aop_abs {o : Oper} (h : aop P ev o s = .ok (nx, s')) : Abs s s' := by
  unfold aop at h
  generalize o.op = op at h
  cases op with
  | move x => unfold opMove at h; replace h := R.bind_ok' h; obtain ⟨_, _, h⟩ := h; exact okv_abs h
  | assign x => unfold opMove at h; replace h := R.bind_ok' h; obtain ⟨_, _, h⟩ := h; exact okv_abs h
  | pick c a b =>
    unfold opPick at h
    replace h := R.bind_ok' h; obtain ⟨_, _, h⟩ := h
    replace h := R.bind_ok' h; obtain ⟨_, _, h⟩ := h
    replace h := R.bind_ok' h; obtain ⟨_, _, h⟩ := h
    replace h := R.bind_ok' h; obtain ⟨_, _, h⟩ := h
    exact okv_abs h
  | alloc t =>
    unfold opAlloc at h
    replace h := R.bind_ok' h; obtain ⟨_, _, h⟩ := h
    replace h := R.bind_ok' h; obtain ⟨s1, h1, h⟩ := h
    exact (Abs.alloc h1).trans (okv_abs h)
  | box t x =>
    unfold opBox at h
    replace h := R.bind_ok' h; obtain ⟨_, _, h⟩ := h
    replace h := R.bind_ok' h; obtain ⟨_, _, h⟩ := h
    replace h := R.bind_ok' h; obtain ⟨s1, h1, h⟩ := h
    exact (Abs.alloc h1).trans (okv_abs h)
  | build t ps =>
    unfold opBuild at h
    replace h := R.bind_ok' h; obtain ⟨_, _, h⟩ := h
    replace h := R.bind_ok' h; obtain ⟨_, _, h⟩ := h
    replace h := R.bind_ok' h; obtain ⟨_, _, h⟩ := h
    split at h
    · replace h := R.bind_ok' h; obtain ⟨_, _, h⟩ := h
      replace h := R.bind_ok' h; obtain ⟨_, _, h⟩ := h
      exact okv_abs h
    · replace h := R.bind_ok' h; obtain ⟨_, _, h⟩ := h
      replace h := R.bind_ok' h; obtain ⟨_, _, h⟩ := h
      exact okv_abs h
    · cases h
  | buildSlice t n ps =>
    unfold opBuildSlice at h
    replace h := R.bind_ok' h; obtain ⟨_, _, h⟩ := h
    split at h
    · replace h := R.bind_ok' h; obtain ⟨_, _, h⟩ := h
      replace h := R.bind_ok' h; obtain ⟨_, _, h⟩ := h
      replace h := R.bind_ok' h; obtain ⟨_, _, h⟩ := h
      replace h := R.bind_ok' h; obtain ⟨_, _, h⟩ := h
      replace h := R.bind_ok' h; obtain ⟨_, _, h⟩ := h
      replace h := R.bind_ok' h; obtain ⟨_, _, h⟩ := h
      replace h := R.bind_ok' h; obtain ⟨_, _, h⟩ := h
      replace h := R.bind_ok' h; obtain ⟨s1, h1, h⟩ := h
      exact (Abs.alloc h1).trans (okv_abs h)
    · cases h
  | insert t m k v | mapUpdate t m k v =>
    unfold opMapUpdate at h
    replace h := R.bind_ok' h; obtain ⟨_, _, h⟩ := h
    replace h := R.bind_ok' h; obtain ⟨_, _, h⟩ := h
    replace h := R.bind_ok' h; obtain ⟨_, _, h⟩ := h
    replace h := R.bind_ok' h; obtain ⟨_, _, h⟩ := h
    replace h := R.bind_ok' h; obtain ⟨_, _, h⟩ := h
    replace h := R.bind_ok' h; obtain ⟨⟨b, es, c⟩, h1, h⟩ := h
    replace h := R.bind_ok' h; obtain ⟨s1, h2, h⟩ := h
    exact (mapPut_abs h2 (by rw [mapOf_live h1]; simp)).trans (okv_abs h)
  | load t x =>
    unfold opLoad at h
    replace h := R.bind_ok' h; obtain ⟨_, _, h⟩ := h
    replace h := R.bind_ok' h; obtain ⟨_, _, h⟩ := h
    replace h := R.bind_ok' h; obtain ⟨_, _, h⟩ := h
    exact okv_abs h
  | store t x v =>
    unfold opStore at h
    replace h := R.bind_ok' h; obtain ⟨_, _, h⟩ := h
    replace h := R.bind_ok' h; obtain ⟨_, _, h⟩ := h
    replace h := R.bind_ok' h; obtain ⟨_, _, h⟩ := h
    replace h := R.bind_ok' h; obtain ⟨s1, h1, h⟩ := h
    unfold storeA at h1
    replace h1 := R.bind_ok' h1; obtain ⟨_, _, h1⟩ := h1
    replace h1 := R.bind_ok' h1; obtain ⟨_, _, h1⟩ := h1
    exact (storeCells_abs h1).trans (okv_abs h)
  | nilCheck x =>
    unfold opNilCheck at h
    replace h := R.bind_ok' h; obtain ⟨_, _, h⟩ := h
    replace h := R.bind_ok' h; obtain ⟨_, _, h⟩ := h
    exact okv_abs h
  | binOp op t x y yt =>
    unfold opBinOp at h
    replace h := R.bind_ok' h; obtain ⟨_, _, h⟩ := h
    replace h := R.bind_ok' h; obtain ⟨_, _, h⟩ := h
    replace h := R.bind_ok' h; obtain ⟨_, _, h⟩ := h
    exact okv_abs h
  | unOp op t x =>
    unfold opUnOp at h
    replace h := R.bind_ok' h; obtain ⟨_, _, h⟩ := h
    split at h
    · replace h := R.bind_ok' h; obtain ⟨_, _, h⟩ := h
      exact okv_abs h
    · cases h
  | convert a b x =>
    unfold opConvert at h
    replace h := R.bind_ok' h; obtain ⟨_, _, h⟩ := h
    split at h
    · replace h := R.bind_ok' h; obtain ⟨_, _, h⟩ := h
      exact okv_abs h
    · cases h
  | makeFunc fn first caps => cases fn with
    | func f =>
      replace h : opMakeFunc P ev f first caps s = .ok (nx, s') := h
      unfold opMakeFunc at h
      replace h := R.bind_ok' h; obtain ⟨_, _, h⟩ := h
      replace h := R.bind_ok' h; obtain ⟨_, _, h⟩ := h
      exact okv_abs h
    | _ => cases h
  | makeMap t r => cases r with
    | none =>
      replace h : opMakeMap P ev s = .ok (nx, s') := h
      unfold opMakeMap at h
      replace h := R.bind_ok' h; obtain ⟨s1, h1, h⟩ := h
      exact (Abs.alloc h1).trans (okv_abs h)
    | some _ => cases h
  | makeSlice t l c =>
    unfold opMakeSlice at h
    replace h := R.bind_ok' h; obtain ⟨_, _, h⟩ := h
    split at h
    · replace h := R.bind_ok' h; obtain ⟨_, _, h⟩ := h
      replace h := R.bind_ok' h; obtain ⟨⟨k, li⟩, _, h⟩ := h
      replace h := R.bind_ok' h; obtain ⟨_, _, h⟩ := h
      replace h := R.bind_ok' h; obtain ⟨⟨k', ci⟩, _, h⟩ := h
      replace h := R.bind_ok' h; obtain ⟨_, _, h⟩ := h
      replace h := R.bind_ok' h; obtain ⟨_, _, h⟩ := h
      replace h := R.bind_ok' h; obtain ⟨_, _, h⟩ := h
      replace h := R.bind_ok' h; obtain ⟨_, _, h⟩ := h
      rcases li with len | len <;> rcases ci with cap | cap <;> simp only [] at h
      · replace h := R.bind_ok' h; obtain ⟨_, _, h⟩ := h
        replace h := R.bind_ok' h; obtain ⟨s1, h1, h⟩ := h
        exact (Abs.alloc h1).trans (okv_abs h)
      all_goals cases h
    · cases h
  | slice t x lo hi mx =>
    unfold opSlice at h
    replace h := R.bind_ok' h; obtain ⟨_, _, h⟩ := h
    replace h := R.bind_ok' h; obtain ⟨_, _, h⟩ := h
    replace h := R.bind_ok' h; obtain ⟨_, _, h⟩ := h
    replace h := R.bind_ok' h; obtain ⟨_, _, h⟩ := h
    replace h := R.bind_ok' h; obtain ⟨_, _, h⟩ := h
    exact okv_abs h
  | fieldAddr t x f =>
    unfold opFieldAddr at h
    replace h := R.bind_ok' h; obtain ⟨_, _, h⟩ := h
    replace h := R.bind_ok' h; obtain ⟨_, _, h⟩ := h
    replace h := R.bind_ok' h; obtain ⟨_, _, h⟩ := h
    split at h
    · replace h := R.bind_ok' h; obtain ⟨_, _, h⟩ := h
      replace h := R.bind_ok' h; obtain ⟨_, _, h⟩ := h
      replace h := R.bind_ok' h; obtain ⟨_, _, h⟩ := h
      exact okv_abs h
    · cases h
  | field t x f =>
    unfold opField at h
    replace h := R.bind_ok' h; obtain ⟨_, _, h⟩ := h
    replace h := R.bind_ok' h; obtain ⟨_, _, h⟩ := h
    split at h
    · replace h := R.bind_ok' h; obtain ⟨_, _, h⟩ := h
      replace h := R.bind_ok' h; obtain ⟨_, _, h⟩ := h
      exact okv_abs h
    · cases h
  | indexAddr t x i =>
    unfold opIndexAddr at h
    replace h := R.bind_ok' h; obtain ⟨_, _, h⟩ := h
    replace h := R.bind_ok' h; obtain ⟨_, _, h⟩ := h
    replace h := R.bind_ok' h; obtain ⟨_, _, h⟩ := h
    replace h := R.bind_ok' h; obtain ⟨_, _, h⟩ := h
    split at h
    · replace h := R.bind_ok' h; obtain ⟨_, _, h⟩ := h
      replace h := R.bind_ok' h; obtain ⟨_, _, h⟩ := h
      exact okv_abs h
    · replace h := R.bind_ok' h; obtain ⟨_, _, h⟩ := h
      replace h := R.bind_ok' h; obtain ⟨_, _, h⟩ := h
      exact okv_abs h
    · cases h
  | index t x i =>
    unfold opIndex at h
    replace h := R.bind_ok' h; obtain ⟨_, _, h⟩ := h
    replace h := R.bind_ok' h; obtain ⟨_, _, h⟩ := h
    replace h := R.bind_ok' h; obtain ⟨_, _, h⟩ := h
    replace h := R.bind_ok' h; obtain ⟨_, _, h⟩ := h
    split at h
    · replace h := R.bind_ok' h; obtain ⟨_, _, h⟩ := h
      replace h := R.bind_ok' h; obtain ⟨_, _, h⟩ := h
      replace h := R.bind_ok' h; obtain ⟨_, _, h⟩ := h
      exact okv_abs h
    · split at h
      · replace h := R.bind_ok' h; obtain ⟨_, _, h⟩ := h
        exact okv_abs h
      · cases h
    · cases h
  | lookup t x k ok =>
    unfold opLookup at h
    replace h := R.bind_ok' h; obtain ⟨_, _, h⟩ := h
    replace h := R.bind_ok' h; obtain ⟨_, _, h⟩ := h
    replace h := R.bind_ok' h; obtain ⟨_, _, h⟩ := h
    replace h := R.bind_ok' h; obtain ⟨_, _, h⟩ := h
    replace h := R.bind_ok' h; obtain ⟨_, _, h⟩ := h
    replace h := R.bind_ok' h; obtain ⟨_, _, h⟩ := h
    exact okv_abs h
  | mapEntry t m k =>
    unfold opMapEntry at h
    replace h := R.bind_ok' h; obtain ⟨_, _, h⟩ := h
    replace h := R.bind_ok' h; obtain ⟨_, _, h⟩ := h
    replace h := R.bind_ok' h; obtain ⟨_, _, h⟩ := h
    replace h := R.bind_ok' h; obtain ⟨_, _, h⟩ := h
    replace h := R.bind_ok' h; obtain ⟨⟨b, es, c⟩, h1, h⟩ := h
    replace h := R.bind_ok' h; obtain ⟨q, _, h⟩ := h
    cases q with
    | none =>
      replace h := R.bind_ok' h; obtain ⟨_, _, h⟩ := h
      replace h := R.bind_ok' h; obtain ⟨s1, h2, h⟩ := h
      exact (Abs.write h2 (by rw [mapOf_live h1]; simp)).trans (okv_abs h)
    | some p =>
      replace h := R.bind_ok' h; obtain ⟨s1, h2, h⟩ := h
      exact (Abs.write h2 (by rw [mapOf_live h1]; simp)).trans (okv_abs h)
  | entryStore t m st v =>
    unfold opEntryStore at h
    replace h := R.bind_ok' h; obtain ⟨_, _, h⟩ := h
    replace h := R.bind_ok' h; obtain ⟨⟨k, si⟩, _, h⟩ := h
    replace h := R.bind_ok' h; obtain ⟨_, _, h⟩ := h
    replace h := R.bind_ok' h; obtain ⟨_, _, h⟩ := h
    replace h := R.bind_ok' h; obtain ⟨⟨b, es, c⟩, h1, h⟩ := h
    simp only [] at h
    cases hi : es.findIdx? (fun e => (e.born : Int) == si) with
    | none => rw [hi] at h; cases h
    | some i =>
      rw [hi] at h
      simp only [] at h
      replace h := R.bind_ok' h; obtain ⟨s1, h2, h⟩ := h
      exact (Abs.write h2 (by rw [mapOf_live h1]; simp)).trans (okv_abs h)
  | range t x =>
    unfold opRange at h
    replace h := R.bind_ok' h; obtain ⟨_, _, h⟩ := h
    replace h := R.bind_ok' h; obtain ⟨_, _, h⟩ := h
    split at h
    · replace h := R.bind_ok' h; obtain ⟨s1, h1, h⟩ := h
      exact (Abs.alloc h1).trans (okv_abs h)
    · replace h := R.bind_ok' h; obtain ⟨_, _, h⟩ := h
      split at h
      · replace h := R.bind_ok' h; obtain ⟨s1, h1, h⟩ := h
        exact (Abs.alloc h1).trans (okv_abs h)
      · cases h
    · cases h
  | next it b => cases b with
    | false =>
      replace h : opNext ev it s = .ok (nx, s') := h
      unfold opNext at h
      replace h := R.bind_ok' h; obtain ⟨_, _, h⟩ := h
      replace h := R.bind_ok' h; obtain ⟨⟨r, o⟩, _, h⟩ := h
      replace h := R.bind_ok' h; obtain ⟨_, _, h⟩ := h
      replace h := R.bind_ok' h; obtain ⟨ob, hg, h⟩ := h
      split at h
      · exact okv_abs h
      · replace h := R.bind_ok' h; obtain ⟨_, _, h⟩ := h
        split at h
        · replace h := R.bind_ok' h; obtain ⟨_, _, h⟩ := h
          split at h
          · exact okv_abs h
          · replace h := R.bind_ok' h; obtain ⟨_, _, h⟩ := h
            replace h := R.bind_ok' h; obtain ⟨s1, h1, h⟩ := h
            exact (Abs.write h1 (by rw [get_ok hg]; simp)).trans (okv_abs h)
          · cases h; exact Abs.refl _
        · cases h
      · cases h
    | true => cases h
  | entry it =>
    unfold opEntry at h
    replace h := R.bind_ok' h; obtain ⟨_, _, h⟩ := h
    replace h := R.bind_ok' h; obtain ⟨⟨r, o⟩, _, h⟩ := h
    replace h := R.bind_ok' h; obtain ⟨_, _, h⟩ := h
    replace h := R.bind_ok' h; obtain ⟨_, _, h⟩ := h
    split at h
    · replace h := R.bind_ok' h; obtain ⟨_, _, h⟩ := h
      split at h
      · replace h := R.bind_ok' h; obtain ⟨_, _, h⟩ := h
        replace h := R.bind_ok' h; obtain ⟨st, _, h⟩ := h
        split at h
        · replace h := R.bind_ok' h; obtain ⟨_, _, h⟩ := h
          exact okv_abs h
        · cases h
      · cases h
    · cases h
  | extract t i =>
    unfold opExtract at h
    replace h := R.bind_ok' h; obtain ⟨_, _, h⟩ := h
    split at h
    · replace h := R.bind_ok' h; obtain ⟨_, _, h⟩ := h
      exact okv_abs h
    · cases h
  | call c =>
    unfold opCall at h
    replace h := R.bind_ok' h; obtain ⟨_, _, h⟩ := h
    split at h
    · replace h := R.bind_ok' h; obtain ⟨⟨v, s1⟩, h1, h⟩ := h
      exact (abuiltin_abs (r := (v, s1)) h1).trans (okv_abs h)
    · replace h := R.bind_ok' h; obtain ⟨_, _, h⟩ := h
      split at h
      · replace h := R.bind_ok' h; obtain ⟨_, _, h⟩ := h
        cases h; exact Abs.refl _
      · cases h
    · cases h
  | _ => cases h

end
end Go.Am


/-
  The abstract machine: regions that draw their order; definitions.
-/
namespace Go.Am
open Go Go.RowKit
set_option linter.unusedVariables false
set_option linter.unusedSimpArgs false
noncomputable section

structure Step where
  o : Oper
  a : AAct
  s : AState
  t : AState
  on : Bool
  v : AVal

def big : Nat := 1099511627800

def setLow (s : AState) (l : Nat) : AState :=
  match s with
  | ⟨h, n, _, r⟩ => ⟨h, n, l, r⟩

def stepOne (P : Program) (rec : Rec) (ops : List Oper) (o : Oper) (a : AAct) (s : AState) : R Step := do
  let w ← wantedA ops a o
  bif w then do
    let p ← execA P rec (aev a) o (setLow s big)
    .ok ⟨o, a, s, p.2, true, p.1⟩
  else .ok ⟨o, a, s, setLow s big, false, aundef⟩

def joinLow (s t : AState) : AState :=
  match s, t with
  | ⟨_, _, l, _⟩, ⟨h, n, m, r⟩ => forceN (Nat.min l m) fun l => ⟨h, n, l, r⟩

def traceOps (P : Program) (rec : Rec) (ops : List Oper) : List Oper → AAct → AState → R (List Step × AAct × AState)
  | [], a, s => .ok ([], a, s)
  | o :: r, a, s => do
    let st ← stepOne P rec ops o a s
    let a' ← a.put o.dst st.v
    let p ← traceOps P rec ops r a' (joinLow s st.t)
    .ok (st :: p.1, p.2.1, p.2.2)

/-- The operations that come before each one, as bits. -/
def befOf (acc : List Nat) (o : Oper) : Nat :=
  o.after.toList.foldl (fun s e => bif Region.binds .any e then Nat.lor s (Nat.lor (Nat.shiftLeft 1 e.on) (acc.getD e.on 0)) else s) 0

def befAll : List Oper → List Nat → List Nat
  | [], acc => acc
  | o :: r, acc => befAll r (acc ++ [befOf acc o])

def ordered (bs : List Nat) (i j : Nat) : Bool := bif Nat.blt i j then Nat.testBit (bs.getD j 0) i else bif Nat.blt j i then Nat.testBit (bs.getD i 0) j else true

def edgesBack (ops : List Oper) : Bool := ops.zipIdx.all fun (o, j) => o.after.toList.all fun e => !Region.binds .any e || Nat.blt e.on j

def looks (ops : List Oper) (o : Oper) : List Tmp :=
  (o.op.operands.toList.filterMap fun x => match x with | .tmp t => some t | _ => none) ++
  (match o.guard with
   | some (g, _) => ((nthOp ops g).bind (·.dst)).toList
   | none => [])

def tmpsOk (ops : List Oper) (bs : List Nat) : Bool :=
  ops.zipIdx.all fun (o, i) => match o.dst with
    | none => true
    | some d => ops.zipIdx.all fun (o', j) => Nat.beq i j || (!(o'.dst == some d) && (!(looks ops o').contains d || ordered bs i j))

def noSel (ops : List Oper) : Bool := ops.all fun o => match o.op with | .select _ _ => false | _ => true

def regStatic (ops : List Oper) : Bool := noSel ops && edgesBack ops && tmpsOk ops (befAll ops [])

def isW (st : Step) : Bool := st.on && Nat.blt st.t.low st.s.next

/-- An operation that never looks at memory. -/
def pureOp : Op → Bool
  | .move _ | .assign _ | .pick .. | .build .. | .nilCheck _ | .binOp .. | .unOp .. | .convert .. | .makeFunc .. | .slice .. | .fieldAddr .. | .field .. | .indexAddr .. | .index .. | .extract .. => true
  | _ => false

def sameLit : Value → Value → Bool
  | .bool a, .bool b => a == b
  | .int k a, .int j b => decide (k = j) && decide (a = b)
  | .pointer none, .pointer none => true
  | .slice none a b, .slice none c d => Nat.beq a c && Nat.beq b d
  | .map none, .map none => true
  | .nilFunc, .nilFunc => true
  | _, _ => false

def sameCell : AVal → AVal → Bool
  | .lit v, .lit w => sameLit v w
  | .sym i, .sym j => Nat.beq i j
  | .ptr a b, .ptr c d => Nat.beq a c && Nat.beq b d
  | .slice a b c (.known k), .slice d e f (.known j) => Nat.beq a d && Nat.beq b e && Nat.beq c f && Nat.beq k j
  | .slice a b c (.grown k), .slice d e f (.grown j) => Nat.beq a d && Nat.beq b e && Nat.beq c f && Nat.beq k j
  | .map a, .map b => Nat.beq a b
  | _, _ => false

def sameCells : List AVal → List AVal → Bool
  | [], [] => true
  | a :: r, b :: q => sameCell a b && sameCells r q
  | _, _ => false

def sameBlock : Option AObj → Option AObj → Bool
  | some (.cells a g), some (.cells b h) => sameCells a b && g == h
  | _, _ => false

/-- The block that a load reads. -/
def loadBlock (st : Step) : Option Nat :=
  match st.o.op with
  | .load _ x => match aev st.a x with
    | .ok (.ptr b _) => some b
    | _ => none
  | _ => none

def okPair (bs : List Nat) (w : Step) (i : Nat) (x : Step) (j : Nat) : Bool :=
  Nat.beq i j || !x.on || pureOp x.o.op || ordered bs i j || (match loadBlock x with
    | some b => sameBlock (w.s.heap.get b) (w.t.heap.get b)
    | none => false)

def dynOk (bs : List Nat) (l : List Step) : Bool :=
  l.zipIdx.all fun (w, i) => !isW w || l.zipIdx.all fun (x, j) => okPair bs w i x j

def drawRun (P : Program) (rec : Rec) (ops : List Oper) (a : AAct) (s : AState) : R (AAct × AState) := do
  guardR (regStatic ops) "region"
  let p ← traceOps P rec ops ops a s
  guardR (dynOk (befAll ops []) p.1) "region: order"
  .ok (p.2.1, p.2.2)

end
end Go.Am
