/-
  Contracts that are worked out by looking at every order: of calls that turn nothing that is old, and answer a closed value or a row of them.
-/
import Derived.Test.YtonbcchdaboigaaAm26
namespace Go.Am
open Go Go.RowKit
set_option linter.unusedVariables false

noncomputable section

inductive XRes where
  | lit (v : Value)
  | row (n : Nat) (cap : ACap) (g : Bool) (cs : List AVal)

def isLit : AVal → Bool
  | .lit _ => true
  | _ => false

def sameCap : ACap → ACap → Bool
  | .known a, .known b => Nat.beq a b
  | .grown a, .grown b => Nat.beq a b
  | _, _ => false

def eqRes : XRes → XRes → Bool
  | .lit v, .lit w => sameLit v w
  | .row n c g l, .row n' c' g' l' => Nat.beq n n' && (sameCap c c' && (g == g' && sameCells l l'))
  | _, _ => false

def sumX (next : Nat) : Done → AState → R XRes
  | .val (.lit v), s => bif Nat.ble next s.low then .ok (.lit v) else .fail "what is old is turned"
  | .val (.slice b o n cap), s => bif Nat.beq o 0 && (Nat.ble next s.low && Nat.ble next b) then do
      match ← s.get b with
      | .cells cs g => bif cs.all isLit then .ok (.row n cap g cs) else .fail "cells that are not closed"
      | _ => .fail "cells expected"
    else .fail "what is old is turned"
  | _, _ => .fail "a value that is not closed"

def bump (s : AState) (room : Nat) : R AState :=
  match s with
  | ⟨h, n, l, ro⟩ => forceN (Nat.add n room) fun m => cond (Nat.ble m lim) (.ok ⟨h, m, l, ro⟩) (.fail "too many blocks")

def backX (room : Nat) (s : AState) : XRes → R (AVal × AState)
  | .lit v => do
    let s1 ← bump s room
    .ok (.lit v, s1)
  | .row n cap g cs => do
    let s1 ← bump s room
    let s2 ← s1.alloc (.cells cs g)
    .ok (.slice s1.next 0 n cap, s2)

def exploreX (P : Program) (prims : Prims) (n room : Nat) (f : FuncId) (args : List AVal) (s : AState) : R (AVal × AState) := do
  let r ← runX P false (Nat.add s.next room) prims eqRes (run P prims noFacts (drawRun P) n) n (.call f args) (setLow s big) (sumX s.next)
  backX room s r

end

section
variable {σ : Syms} {N0 : Nat} {w0 : World} {P : Program} {ρ : Ren} {s s' : AState} {w w' : World} {room : Nat}

theorem eqRes_ok : ∀ x y, eqRes x y = true → x = y := by
  intro x y h
  unfold eqRes at h
  split at h
  · rw [sameLit_ok h]
  · rename_i n c g l n' c' g' l'
    simp only [Bool.and_eq_true] at h
    obtain ⟨h1, h2, h3, h4⟩ := h
    have e1 := Nat.eq_of_beq_eq_true h1
    have e4 := sameCells_ok h4
    have e3 : g = g' := by simpa using h3
    have e2 : c = c' := by
      unfold sameCap at h2
      split at h2
      · rw [Nat.eq_of_beq_eq_true h2]
      · rw [Nat.eq_of_beq_eq_true h2]
      · cases h2
    rw [e1, e2, e3, e4]
  · cases h

theorem bump_ok (h : bump s room = .ok s') : s'.heap = s.heap ∧ s'.next = s.next + room ∧ s'.low = s.low ∧ s'.ro = s.ro ∧ s'.next ≤ lim := by
  obtain ⟨hp, n, l, ro⟩ := s
  unfold bump at h
  simp only [forceN_eq] at h
  cases hq : Nat.ble (Nat.add n room) lim with
  | false => rw [hq] at h; cases h
  | true => rw [hq, cond_true] at h; cases h; exact ⟨rfl, rfl, rfl, rfl, Nat.le_of_ble_eq_true hq⟩

theorem Abs.bump (h : bump s room = .ok s') : Abs s s' := by
  obtain ⟨e1, e2, e3, e4, e5⟩ := bump_ok h
  exact ⟨by omega, e4, by omega, fun b _ _ => by rw [e1], fun b _ hl => by rw [e1] at hl; exact hl, fun hd b hb => by rw [e1] at hb; have := hd b hb; omega, fun _ => by omega⟩

theorem Post.bump (h : WRel σ N0 w0 ρ s w) (hb : bump s room = .ok s') : Post σ N0 w0 ρ s w ρ s' w := by
  obtain ⟨e1, e2, e3, e4, e5⟩ := bump_ok hb
  have hbn := h.bnd
  refine ⟨Ext.refl _, fun _ _ h => .inl h, by omega, e4, by omega, fun b _ _ => by rw [e1], fun b _ hl => by rw [e1] at hl; exact hl, ?_, fun _ _ _ => rfl, Nat.le_refl _⟩
  refine ⟨h.base, h.n0, by omega, fun b b' L L' h1 h2 h3 h4 => ?_, fun b hb => ?_, fun b L e => ?_, fun b o hb L e => ?_⟩
  · rw [e4] at h1 h2; rw [e1] at h3 h4; exact h.inj b b' L L' h1 h2 h3 h4
  · rw [e1] at hb; have := h.dom b hb; omega
  · rw [e4]; exact h.rng b L e
  · rw [e1] at hb; rw [e4]; exact h.heap b o hb L e

/-- A block that a call has laid gets a name. -/
theorem Post.newAt {o : AObj} {L : Loc} (h : WRel σ N0 w0 ρ s w) (hb : Below w.heap.size w w') (ha : s.alloc o = .ok s') (hf : Fresh ρ s.next s'.next)
    (hL : w.heap.size ≤ L.blk) (hL' : L.blk < w'.heap.size) (ho : ∀ ρ', Ext ρ ρ' → ORel σ ρ' L true w' o) :
    ∃ ρ', ρ' s.next = some L ∧ Post σ N0 w0 ρ s w ρ' s' w' := by
  obtain ⟨⟨e1, e1'⟩, e2, e3, e4⟩ := alloc_ok ha
  have hro := h.bnd.1
  have hfn : ρ s.next = none := hf s.next (Nat.le_refl _) (by omega)
  let ρ' : Ren := fun b => if b = s.next then some L else ρ b
  have hρ : ρ' s.next = some L := by simp [ρ']
  have hne : ∀ b, b ≠ s.next → ρ' b = ρ b := fun b hb => by simp [ρ', hb]
  have ext : Ext ρ ρ' := fun b L e => by
    by_cases hb : b = s.next
    · subst hb; rw [hfn] at e; cases e
    · rw [hne b hb]; exact e
  have blk := hb.block
  have hsz := hb.size
  refine ⟨ρ', hρ, ext, fun b L' e => ?_, by omega, e3, by omega, fun b h1 _ => by rw [e4, if_neg (by omega)], fun b h1 => by rw [e4, if_neg (by omega)]; exact id, ?_, fun c hc _ => blk c hc, hsz⟩
  · by_cases hb : b = s.next
    · subst hb
      rw [hρ] at e
      cases e
      exact .inr ⟨Nat.le_refl _, by omega, .inl hL⟩
    · rw [hne b hb] at e; exact .inl e
  · have hn0 := h.n0
    refine ⟨h.base.trans (hb.mono h.n0), by omega, by omega, fun b b' M M' hr hr' hb hb' eb eb' hM => ?_, fun b hb => ?_, fun b M e => ?_, fun b o' hb M e => ?_⟩
    · rw [e3] at hr hr'
      rw [e4] at hb hb'
      by_cases h1 : b = s.next
      · by_cases h2 : b' = s.next
        · omega
        · exfalso
          subst h1
          rw [hne b' h2] at eb'
          rw [hρ] at eb
          cases eb
          have := (h.rng b' M' eb').1
          omega
      · by_cases h2 : b' = s.next
        · exfalso
          subst h2
          rw [hne b h1] at eb
          rw [hρ] at eb'
          cases eb'
          have := (h.rng b M eb).1
          omega
        · rw [if_neg h1] at hb
          rw [if_neg h2] at hb'
          rw [hne b h1] at eb
          rw [hne b' h2] at eb'
          exact h.inj b b' M M' hr hr' hb hb' eb eb' hM
    · rw [e4] at hb
      by_cases h1 : b = s.next
      · omega
      · rw [if_neg h1] at hb; have := h.dom b hb; omega
    · rw [e3]
      by_cases h1 : b = s.next
      · subst h1
        rw [hρ] at e
        cases e
        exact ⟨hL', fun _ => by omega, fun h2 => by omega⟩
      · rw [hne b h1] at e
        have := h.rng b M e
        exact ⟨by omega, this.2⟩
    · rw [e4] at hb
      rw [e3]
      by_cases h1 : b = s.next
      · subst h1
        rw [if_pos rfl] at hb
        cases hb
        rw [hρ] at e
        cases e
        simpa [hro] using ho ρ' ext
      · rw [if_neg h1] at hb
        rw [hne b h1] at e
        exact (h.heap b o' hb M e).mono ext |>.of_block (blk _ (h.rng b M e).1)

theorem setLow_parts (s : AState) (l : Nat) : (setLow s l).next = s.next ∧ (setLow s l).heap = s.heap ∧ (setLow s l).ro = s.ro := by
  obtain ⟨hp, n, lw, ro⟩ := s
  exact ⟨rfl, rfl, rfl⟩

/-- What turned nothing old. -/
theorem Post.quiet {ρ' : Ren} (hw : WRel σ N0 w0 ρ s w) (hP : Post σ N0 w0 ρ (Am.setLow s big) w ρ' s' w') (hl : s.next ≤ s'.low) : Below w.heap.size w w' := by
  have h1 := hP.wrel.base
  have h2 := hw.base
  refine ⟨h1.os.trans h2.os.symm, h1.tape.trans h2.tape.symm, h1.output.trans h2.output.symm, hP.size, fun k hk => hP.frame k hk fun b L hb hl' => ?_⟩
  rw [(setLow_parts s big).1] at hb
  omega

theorem ORel.lits {ρ' : Ren} {L : Loc} {r : Bool} {cs : List AVal} {g : Bool} (hl : cs.all isLit = true) (h : ORel σ ρ L r w (.cells cs g)) : ORel σ ρ' L r w (.cells cs g) := by
  obtain ⟨h1, h2, h3⟩ := h
  refine ⟨fun j v hj => ?_, h2, h3⟩
  obtain ⟨u, hu, hv⟩ := h1 j v hj
  refine ⟨u, hu, ?_⟩
  have := List.all_eq_true.1 hl v (List.mem_of_getElem? hj)
  cases v <;> first | exact hv | cases this

theorem sumX_lit {next : Nat} {v : AVal} {v1 : Value} (h : sumX next (.val v) s = .ok (.lit v1)) : v = .lit v1 ∧ next ≤ s.low := by
  cases v with
  | lit v =>
    replace h : (bif Nat.ble next s.low then R.ok (XRes.lit v) else .fail "what is old is turned") = .ok (.lit v1) := h
    cases hq : Nat.ble next s.low with
    | false => rw [hq] at h; cases h
    | true => rw [hq] at h; cases h; exact ⟨rfl, Nat.le_of_ble_eq_true hq⟩
  | slice b o n cap =>
    unfold sumX at h
    simp only [] at h
    cases hq : (Nat.beq o 0 && (Nat.ble next s.low && Nat.ble next b)) with
    | false => rw [hq] at h; cases h
    | true =>
      rw [hq, cond_true] at h
      replace h := R.bind_ok' h
      obtain ⟨ob, _, h⟩ := h
      split at h
      · rename_i cs g h0
        cases hq2 : cs.all isLit with
        | false => rw [hq2] at h; cases h
        | true => rw [hq2] at h; cases h
      · cases h
  | _ => cases h

theorem sumX_row {next : Nat} {v : AVal} {n : Nat} {cap : ACap} {g : Bool} {cs : List AVal} (h : sumX next (.val v) s = .ok (.row n cap g cs)) :
    ∃ b, v = .slice b 0 n cap ∧ next ≤ s.low ∧ next ≤ b ∧ s.heap.get b = some (.cells cs g) ∧ cs.all isLit = true := by
  cases v with
  | lit v =>
    replace h : (bif Nat.ble next s.low then R.ok (XRes.lit v) else .fail "what is old is turned") = .ok (.row n cap g cs) := h
    cases hq : Nat.ble next s.low with
    | false => rw [hq] at h; cases h
    | true => rw [hq] at h; cases h
  | slice b o n' cap' =>
    unfold sumX at h
    simp only [] at h
    cases hq : (Nat.beq o 0 && (Nat.ble next s.low && Nat.ble next b)) with
    | false => rw [hq] at h; cases h
    | true =>
      rw [hq, cond_true] at h
      simp only [Bool.and_eq_true] at hq
      replace h := R.bind_ok' h
      obtain ⟨ob, ho, h⟩ := h
      split at h
      · rename_i cs' g'
        cases hq2 : cs'.all isLit with
        | false => rw [hq2] at h; cases h
        | true =>
          rw [hq2] at h
          cases h
          have := Nat.eq_of_beq_eq_true hq.1
          subst this
          exact ⟨b, rfl, Nat.le_of_ble_eq_true hq.2.1, Nat.le_of_ble_eq_true hq.2.2, get_ok ho, hq2⟩
      · cases h
  | _ => cases h

theorem exploreX_ok (hm : P.follows .mixedOrders = true) {prims : Prims} (hp : ∀ f p, prims f = some p → PrimOk P σ N0 w0 f p) {n : Nat} {f : FuncId} (hf : plainFn P f = true) : PrimOk P σ N0 w0 f (exploreX P prims n room f) := by
  refine ⟨fun args s v s' h => ?_, fun args s v s' h ρ w us hw hfr hv => ?_⟩
  · unfold exploreX at h
    replace h := R.bind_ok' h
    obtain ⟨r, _, h⟩ := h
    cases r with
    | lit v =>
      replace h := R.bind_ok' h
      obtain ⟨s1, h1, h⟩ := h
      cases h
      exact Abs.bump h1
    | row n cap g cs =>
      replace h := R.bind_ok' h
      obtain ⟨s1, h1, h⟩ := h
      replace h := R.bind_ok' h
      obtain ⟨s2, h2, h⟩ := h
      cases h
      exact (Abs.bump h1).trans (Abs.alloc h2)
  · unfold exploreX at h
    replace h := R.bind_ok' h
    obtain ⟨r, hr, h⟩ := h
    have hX := (runX_ok (M := Nat.add s.next room) (both := false) (by simp) hm (run_ok (facts := noFacts) hm noFacts_ok hp n) eqRes_ok hp n).call _ _ _ _ _ hr hf
    have hn := (setLow_parts s big).1
    have hroom : ∀ m, s.next + room ≤ m → Fresh ρ s.next m → Room (Nat.add s.next room) ρ (Am.setLow s big) := fun m hm hf => ⟨by rw [hn]; show s.next ≤ s.next + room; omega, by rw [hn]; exact hf.mono (Nat.le_refl _) hm⟩
    cases r with
    | lit v1 =>
      replace h := R.bind_ok' h
      obtain ⟨s1, h1, h⟩ := h
      cases h
      obtain ⟨b1, b2, b3, b4, b5⟩ := bump_ok h1
      refine (hX ρ w us (hw.setLow big) (hroom _ (by omega) hfr) hv).mono fun e w' ⟨v2, s2, hk, hM, u, ρ', he, hvu, hP⟩ => ?_
      replace hk : sumX s.next (.val v2) s2 = .ok (.lit v1) := hk
      obtain ⟨rfl, hlow⟩ := sumX_lit hk
      have hb := Post.quiet hw hP hlow
      refine ⟨u, ρ, he, hvu, ?_⟩
      have h2 := Post.bump hw h1
      exact h2.trans hfr (Post.wider h2.wrel hb.size hb.block ⟨hb.os, hb.tape, hb.output⟩)
    | row n1 cap g cs =>
      replace h := R.bind_ok' h
      obtain ⟨s1, h1, h⟩ := h
      replace h := R.bind_ok' h
      obtain ⟨s2, h2, h⟩ := h
      cases h
      obtain ⟨b1, b2, b3, b4, b5⟩ := bump_ok h1
      obtain ⟨⟨c1, c1'⟩, c2, c3, c4⟩ := alloc_ok h2
      refine (hX ρ w us (hw.setLow big) (hroom _ (by omega) hfr) hv).mono fun e w' ⟨v2, s3, hk, hM, u, ρ', he, hvu, hP⟩ => ?_
      replace hk : sumX s.next (.val v2) s3 = .ok (.row n1 cap g cs) := hk
      obtain ⟨b, rfl, hlow, hbn, hget, hlits⟩ := sumX_row hk
      have hb := Post.quiet hw hP hlow
      have hbM : b < s3.next := hP.wrel.dom b (by rw [hget]; simp)
      have hM' : s3.next ≤ s.next + room := hM
      have key : ∀ L, ρ' b = some L → w.heap.size ≤ L.blk ∧ L.blk < w'.heap.size ∧ ORel σ ρ' L true w' (.cells cs g) := fun L hL => by
        refine ⟨?_, (hP.wrel.rng b L hL).1, ?_⟩
        · rcases hP.new b L hL with h3 | ⟨_, _, h3 | ⟨b0, L0, g1, g2, _⟩⟩
          · rw [hfr b hbn (by omega)] at h3; cases h3
          · exact h3
          · rw [hn] at g1; omega
        · have := hP.wrel.heap b _ hget L hL
          have hro : s3.ro ≤ b := by rw [hP.ro, (setLow_parts s big).2.2]; have := hw.bnd; omega
          simpa [hro] using this
      have fin : ∀ L, ρ' b = some L → ∃ ρ'', ρ'' s1.next = some L ∧ Post σ N0 w0 ρ s w ρ'' s' w' := fun L hL => by
        obtain ⟨k1, k2, k3⟩ := key L hL
        have h3 := Post.bump hw h1
        obtain ⟨ρ'', g1, g2⟩ := Post.newAt h3.wrel hb h2 (hfr.mono (by omega) (Nat.le_refl _)) k1 k2 (fun ρ2 _ => k3.lits hlits)
        exact ⟨ρ'', g1, h3.trans (hfr.mono (Nat.le_refl _) (by omega)) g2⟩
      cases cap with
      | known k =>
        obtain ⟨L, hL, rfl⟩ := hvu
        obtain ⟨ρ'', g1, g2⟩ := fin L hL
        exact ⟨_, ρ'', he, ⟨L, g1, rfl⟩, g2⟩
      | grown k =>
        obtain ⟨L, kk, hL, rfl, hrest⟩ := hvu
        obtain ⟨ρ'', g1, g2⟩ := fin L hL
        exact ⟨_, ρ'', he, ⟨L, kk, g1, rfl, hrest⟩, g2⟩

end
end Go.Am
