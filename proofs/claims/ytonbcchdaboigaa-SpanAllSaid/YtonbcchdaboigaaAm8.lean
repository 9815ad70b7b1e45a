/-
  The abstract machine's operations against the model's: slices.
-/
import Derived.Test.YtonbcchdaboigaaAm7
namespace Go.Am
open Go Go.RowKit
set_option linter.unusedVariables false

section
variable {σ : Syms} {N0 : Nat} {w0 : World} {P : Program} {ev : Operand → R AVal} {e : Operand → Value} {ρ : Ren} {s s' : AState} {w : World} {nx : ANext}

def OptRel (σ : Syms) (ρ : Ren) : Option AVal → Option Value → Prop
  | none, none => True
  | some a, some v => VRel σ ρ a v
  | _, _ => False

theorem optEv_ok {x : Option Operand} {a : Option AVal} (hx : ∀ y, x = some y → EvOk σ ρ ev e y) (h : optEv ev x = .ok a) : OptRel σ ρ a (x.map e) := by
  cases x with
  | none => cases h; trivial
  | some y =>
    unfold optEv at h
    replace h := R.bind_ok' h
    obtain ⟨v, h1, h⟩ := h
    cases h
    exact hx y rfl v h1

theorem boundA_ok {a : AVal} {y y' i : Nat} {u : Value} {code : BoundsCode} (h : boundA a y = .ok i) (hv : VRel σ ρ a u) (hy : y ≤ y') (w : World) : (Instr.sliceBound u y' code).run P w = .ok i w ∧ i ≤ y := by
  unfold boundA at h
  replace h := R.bind_ok' h
  obtain ⟨⟨k, n⟩, h1, h⟩ := h
  have := asNatLit_ok h1 hv
  subst this
  rcases n with m | m
  · simp only [] at h
    cases hq : Nat.ble m y with
    | false => rw [hq] at h; cases h
    | true =>
      rw [hq, cond_true] at h
      cases h
      have hle := Nat.le_of_ble_eq_true hq
      have hc : 0 ≤ (Int.ofNat i) ∧ (Int.ofNat i) ≤ (y' : Int) := by simp only [Int.ofNat_eq_natCast]; omega
      refine ⟨?_, hle⟩
      simp only [Instr.sliceBound, asIntOf, Sem.run_bind, Sem.run_pure, Result.andThen_ok]
      rw [if_pos hc]
      rfl
  · cases h

def lowSem (lo' : Option Value) (h : Nat) (code : BoundsCode) (x y : Nat) : Sem (Nat × Nat × Nat) := match lo' with
  | some v => do let l ← Instr.sliceBound v h code; pure (l, x, y)
  | none => do let l ← pure 0; pure (l, x, y)

theorem boundsA_ok {len cap cap' l0 h0 m0 : Nat} {lo hi mx : Option AVal} {lo' hi' mx' : Option Value} {b : Bool} (hb : boundsA len cap lo hi mx = .ok (l0, h0, m0)) (hcap : cap ≤ cap')
    (hl : OptRel σ ρ lo lo') (hh : OptRel σ ρ hi hi') (hm : OptRel σ ρ mx mx') (w : World) :
    (Instr.sliceBounds b len cap' lo' hi' mx').run P w = .ok (l0, h0, if mx.isNone then cap' else m0) w ∧ l0 ≤ h0 ∧ m0 ≤ cap ∧ (mx.isNone = true → m0 = cap) ∧ (hi.isSome = true → h0 ≤ m0) ∧ (hi.isNone = true → h0 = len) := by
  unfold boundsA at hb
  replace hb := R.bind_ok' hb
  obtain ⟨m, h1, hb⟩ := hb
  replace hb := R.bind_ok' hb
  obtain ⟨h, h3, hb⟩ := hb
  replace hb := R.bind_ok' hb
  obtain ⟨l, h4, hb⟩ := hb
  cases hb
  unfold optBound at h1 h4
  unfold hiBound at h3
  have hlo : ∀ (code : BoundsCode) (x y : Nat), (lowSem lo' h0 code x y).run P w = .ok (l0, x, y) w ∧ l0 ≤ h0 := fun code x y => by
    cases lo with
    | none => cases lo' with
      | none => cases h4; exact ⟨rfl, Nat.zero_le _⟩
      | some v => exact absurd hl (by simp [OptRel])
    | some a => cases lo' with
      | none => exact absurd hl (by simp [OptRel])
      | some v =>
        have := fun code => boundA_ok (P := P) (code := code) h4 hl (Nat.le_refl _) w
        exact ⟨by simp [lowSem, (this code).1], (this code).2⟩
  unfold Instr.sliceBounds
  cases mx with
  | none =>
    cases mx' with
    | some v => exact absurd hm (by simp [OptRel])
    | none =>
      cases h1
      cases hi with
      | none => cases hi' with
        | some v => exact absurd hh (by simp [OptRel])
        | none =>
          cases h3
          have := hlo .sliceB
          refine ⟨?_, (this 0 0).2, Nat.le_refl _, fun _ => rfl, fun hx => by simp at hx, fun _ => rfl⟩
          simp only [Sem.run_bind, Sem.run_pure, Result.andThen_ok, Option.isSome_none, Bool.false_eq_true, if_false, Option.isNone_none, if_true]
          exact (this _ _).1
      | some a => cases hi' with
        | none => exact absurd hh (by simp [OptRel])
        | some v =>
          have := hlo .sliceB
          have hb2 := fun code => boundA_ok (P := P) (code := code) h3 hh hcap w
          refine ⟨?_, (this 0 0).2, Nat.le_refl _, fun _ => rfl, fun _ => (hb2 .sliceB).2, fun hx => by simp at hx⟩
          simp only [Sem.run_bind, Sem.run_pure, Result.andThen_ok, Option.isSome_none, Bool.false_eq_true, if_false, (hb2 _).1, Option.isNone_none, if_true]
          exact (this _ _).1
  | some c =>
    cases mx' with
    | none => exact absurd hm (by simp [OptRel])
    | some v =>
      have hb1 := fun code => boundA_ok (P := P) (code := code) h1 hm hcap w
      cases hi with
      | none => cases h3
      | some a => cases hi' with
        | none => exact absurd hh (by simp [OptRel])
        | some v' =>
          have := hlo .slice3C
          have hb2 := fun code => boundA_ok (P := P) (code := code) h3 hh (Nat.le_refl _) w
          refine ⟨?_, (this 0 0).2, (hb1 .sliceB).2, fun hx => by simp at hx, fun _ => (hb2 .sliceB).2, fun hx => by simp at hx⟩
          simp only [Sem.run_bind, Result.andThen_ok, Option.isSome_some, if_true, (hb1 _).1, (hb2 _).1, Option.isNone_some, Bool.false_eq_true, if_false]
          exact (this _ _).1

theorem cond_beq {α : Type} (m l : Nat) (x y : α) : (bif Nat.beq m l then x else y) = if m = l then x else y := by
  by_cases h : m = l
  · subst h; simp
  · have : Nat.beq m l = false := by cases hq : Nat.beq m l with | false => rfl | true => exact absurd (Nat.eq_of_beq_eq_true hq) h
    simp [this, h]

theorem sliceOp_ok {t : TypeId} {x r : AVal} {lo hi mx : Option AVal} {lo' hi' mx' : Option Value} {u : Value} (h : sliceOp P t x lo hi mx = .ok r) (hx : VRel σ ρ x u)
    (hl : OptRel σ ρ lo lo') (hh : OptRel σ ρ hi hi') (hm : OptRel σ ρ mx mx') (w : World) : ∃ z, (Instr.sliceAt t u lo' hi' mx').run P w = .ok z w ∧ VRel σ ρ r z := by
  unfold sliceOp at h
  replace h := R.bind_ok' h
  obtain ⟨d, h1, h⟩ := h
  split at h
  · rename_i el
    replace h := R.bind_ok' h
    obtain ⟨esz, h2, h⟩ := h
    split at h
    · rename_i n c
      replace h := R.bind_ok' h
      obtain ⟨⟨l, hg, m⟩, h3, h⟩ := h
      cases h
      have hb := boundsA_ok (P := P) (b := true) h3 (Nat.le_refl _) hl hh hm w
      have hu : u = .slice none n c := hx.1
      subst hu
      refine ⟨.slice none (hg - l) ((if mx.isNone then c else m) - l), ?_, ?_⟩
      · simp only [Instr.sliceAt, Instr.slice, Sem.run_bind, run_und h1, Result.andThen_ok, hb.1, run_sz h2, Sem.run_pure]
        simp
      · refine ⟨?_, rfl⟩
        cases hq : mx.isNone
        · simp
        · rw [hb.2.2.2.1 hq]; simp
    · rename_i b o n c
      replace h := R.bind_ok' h
      obtain ⟨⟨l, hg, m⟩, h3, h⟩ := h
      cases h
      have hb := boundsA_ok (P := P) (b := true) h3 (Nat.le_refl _) hl hh hm w
      obtain ⟨L, hL, rfl⟩ := hx
      have hm' : (if mx.isNone then c else m) = m := by
        cases hq : mx.isNone
        · simp
        · rw [hb.2.2.2.1 hq]; simp
      refine ⟨.slice (some ⟨L.blk, L.off + (if m = l then o else o + l * esz), none⟩) (hg - l) (m - l), ?_, ?_⟩
      · simp only [Instr.sliceAt, Instr.slice, Sem.run_bind, run_und h1, Result.andThen_ok, hb.1, run_sz h2, Sem.run_pure, hm']
        split <;> simp [Addr.add_mid, Nat.add_assoc]
      · simp only [cond_beq]
        exact ⟨L, hL, rfl⟩
    · rename_i b o n g
      replace h := R.bind_ok' h
      obtain ⟨_, h3, h⟩ := h
      have h3 := Nat.eq_of_beq_eq_true (guardR_ok h3)
      subst h3
      replace h := R.bind_ok' h
      obtain ⟨⟨l, hg, m⟩, h4, h⟩ := h
      obtain ⟨L, k, hL, rfl, hk1, hk2, hk3⟩ := hx
      have hb := boundsA_ok (P := P) (b := true) h4 hk1 hl hh hm w
      rcases mx with _ | mxv
      rotate_left
      · cases h
        simp only [Option.isNone_some, Bool.false_eq_true, if_false] at hb
        refine ⟨.slice (some ⟨L.blk, L.off + (if m = l then o else o + l * g), none⟩) (hg - l) (m - l), ?_, ?_⟩
        · simp only [Instr.sliceAt, Instr.slice, Sem.run_bind, run_und h1, Result.andThen_ok, hb.1, run_sz h2, Sem.run_pure]
          split <;> simp [Addr.add_mid, Nat.add_assoc]
        · simp only [cond_beq]
          exact ⟨L, hL, rfl⟩
      · replace h := R.bind_ok' h
        obtain ⟨_, h5, h⟩ := h
        cases h
        have h5 := guardR_ok h5
        simp only [Bool.or_eq_true] at h5
        simp only [Option.isNone_none, if_true] at hb
        have hmn : m = n := hb.2.2.2.1 trivial
        have hhn : hg ≤ n := by
          cases hq : hi with
          | none => rw [hb.2.2.2.2.2 (by rw [hq]; rfl)]; exact Nat.le_refl _
          | some a => have := hb.2.2.2.2.1 (by rw [hq]; rfl); omega
        have hlh := hb.2.1
        refine ⟨.slice (some ⟨L.blk, L.off + (o + l * g), none⟩) (hg - l) (k - l), ?_, ⟨L, k - l, hL, rfl, by omega, hk2, ?_⟩⟩
        · simp only [Instr.sliceAt, Instr.slice, Sem.run_bind, run_und h1, Result.andThen_ok, hb.1, run_sz h2, Sem.run_pure]
          by_cases hkl : k = l
          · have hl0 : l = 0 := by
              rcases h5 with h5 | h5
              · have := Nat.le_of_ble_eq_true h5; omega
              · exact Nat.eq_of_beq_eq_true h5
            rw [if_pos hkl]; simp [hl0]
          · rw [if_neg hkl]; simp [Addr.add_mid, Nat.add_assoc]
        · have : l * g + (k - l) * g = k * g := by rw [← Nat.add_mul]; congr 1; omega
          omega
    · cases h
  · rename_i n el
    replace h := R.bind_ok' h
    obtain ⟨esz, h2, h⟩ := h
    split at h
    · rename_i b o
      replace h := R.bind_ok' h
      obtain ⟨⟨l, hg, m⟩, h3, h⟩ := h
      cases h
      have hb := boundsA_ok (P := P) (b := false) h3 (Nat.le_refl _) hl hh hm w
      obtain ⟨L, hL, rfl⟩ := hx
      have hm' : (if mx.isNone then n else m) = m := by
        cases hq : mx.isNone
        · simp
        · rw [hb.2.2.2.1 hq]; simp
      refine ⟨.slice (some ⟨L.blk, L.off + (if m = l then o else o + l * esz), none⟩) (hg - l) (m - l), ?_, ?_⟩
      · simp only [Instr.sliceAt, Sem.run_bind, run_und h1, Result.andThen_ok, Instr.sureAddr, hb.1, run_sz h2, Sem.run_pure, hm']
        split <;> simp [Addr.add_mid, Nat.add_assoc]
      · simp only [cond_beq]
        exact ⟨L, hL, rfl⟩
    · cases h
  · cases h

theorem slice_op {t : TypeId} {x : Operand} {lo hi mx : Option Operand} (hw : WRel σ N0 w0 ρ s w) (hx : EvOk σ ρ ev e x) (hl : ∀ y, lo = some y → EvOk σ ρ ev e y) (hh : ∀ y, hi = some y → EvOk σ ρ ev e y) (hm : ∀ y, mx = some y → EvOk σ ρ ev e y)
    (h : opSlice P ev t x lo hi mx s = .ok (nx, s')) : NSem P σ N0 w0 (do pure (.value (← Instr.sliceAt t (e x) (lo.map e) (hi.map e) (mx.map e)))) ρ s w nx s' := by
  unfold opSlice at h
  replace h := R.bind_ok' h
  obtain ⟨v, h1, h⟩ := h
  replace h := R.bind_ok' h
  obtain ⟨lo', h2, h⟩ := h
  replace h := R.bind_ok' h
  obtain ⟨hi', h3, h⟩ := h
  replace h := R.bind_ok' h
  obtain ⟨mx', h4, h⟩ := h
  replace h := R.bind_ok' h
  obtain ⟨r, h5, h⟩ := h
  obtain ⟨rfl, rfl⟩ := okv_ok h
  obtain ⟨z, h6, h7⟩ := sliceOp_ok h5 (hx v h1) (optEv_ok hl h2) (optEv_ok hh h3) (optEv_ok hm h4) w
  exact NSem.of_v (VSem.pure hw h6 h7)

end
end Go.Am
