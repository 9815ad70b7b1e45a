/-
  Contracts that are worked out by looking at every order: of calls that turn nothing that is old, and answer a closed value or a row of them.
-/
import Derived.Test.YtdhnfhhmacjajaaJ4
import Derived.Test.YtdhnfhhmacjajaaJ9
import Derived.Lib.SlKeysI
import Derived.Maps.RangeWalk
import Derived.WalkKit
import Derived.WalkSpells

namespace Go.Am
open Go Go.RowKit
set_option linter.unusedVariables false
set_option linter.unusedSimpArgs false

noncomputable section

inductive XRes where
  | lit (v : Value)
  | row (n : Nat) (cap : ACap) (g : Bool) (cs : List AVal)

def isLit : AVal → Bool
  | .lit _ => true
  | _ => false

def sameCap : ACap → ACap → Bool
  | .known a, .known b => Nat.beq a b
  | .grown a, .grown b => Nat.beq a b
  | _, _ => false

def eqRes : XRes → XRes → Bool
  | .lit v, .lit w => sameLit v w
  | .row n c g l, .row n' c' g' l' => Nat.beq n n' && (sameCap c c' && (g == g' && sameCells l l'))
  | _, _ => false

def sumX (next : Nat) : Done → AState → R XRes
  | .val (.lit v), s => bif Nat.ble next s.low then .ok (.lit v) else .fail "what is old is turned"
  | .val (.slice b o n cap), s => bif Nat.beq o 0 && (Nat.ble next s.low && Nat.ble next b) then do
      match ← s.get b with
      | .cells cs g => bif cs.all isLit then .ok (.row n cap g cs) else .fail "cells that are not closed"
      | _ => .fail "cells expected"
    else .fail "what is old is turned"
  | _, _ => .fail "a value that is not closed"

def bump (s : AState) (room : Nat) : R AState :=
  match s with
  | ⟨h, n, l, ro⟩ => forceN (Nat.add n room) fun m => cond (Nat.ble m lim) (.ok ⟨h, m, l, ro⟩) (.fail "too many blocks")

def backX (room : Nat) (s : AState) : XRes → R (AVal × AState)
  | .lit v => do
    let s1 ← bump s room
    .ok (.lit v, s1)
  | .row n cap g cs => do
    let s1 ← bump s room
    let s2 ← s1.alloc (.cells cs g)
    .ok (.slice s1.next 0 n cap, s2)

def exploreX (P : Program) (prims : Prims) (n room : Nat) (f : FuncId) (args : List AVal) (s : AState) : R (AVal × AState) := do
  let r ← runX P false (Nat.add s.next room) prims eqRes (run P prims noFacts (drawRun P) n) n (.call f args) (setLow s big) (sumX s.next)
  backX room s r

end

section
variable {σ : Syms} {N0 : Nat} {w0 : World} {P : Program} {ρ : Ren} {s s' : AState} {w w' : World} {room : Nat}

theorem eqRes_ok : ∀ x y, eqRes x y = true → x = y := by
  intro x y h
  unfold eqRes at h
  split at h
  · rw [sameLit_ok h]
  · rename_i n c g l n' c' g' l'
    simp only [Bool.and_eq_true] at h
    obtain ⟨h1, h2, h3, h4⟩ := h
    have e1 := Nat.eq_of_beq_eq_true h1
    have e4 := sameCells_ok h4
    have e3 : g = g' := by simpa using h3
    have e2 : c = c' := by
      unfold sameCap at h2
      split at h2
      · rw [Nat.eq_of_beq_eq_true h2]
      · rw [Nat.eq_of_beq_eq_true h2]
      · cases h2
    rw [e1, e2, e3, e4]
  · cases h

theorem bump_ok (h : bump s room = .ok s') : s'.heap = s.heap ∧ s'.next = s.next + room ∧ s'.low = s.low ∧ s'.ro = s.ro ∧ s'.next ≤ lim := by
  obtain ⟨hp, n, l, ro⟩ := s
  unfold bump at h
  simp only [forceN_eq] at h
  cases hq : Nat.ble (Nat.add n room) lim with
  | false => rw [hq] at h; cases h
  | true => rw [hq, cond_true] at h; cases h; exact ⟨rfl, rfl, rfl, rfl, Nat.le_of_ble_eq_true hq⟩

theorem Abs.bump (h : bump s room = .ok s') : Abs s s' := by
  obtain ⟨e1, e2, e3, e4, e5⟩ := bump_ok h
  exact ⟨by omega, e4, by omega, fun b _ _ => by rw [e1], fun b _ hl => by rw [e1] at hl; exact hl, fun hd b hb => by rw [e1] at hb; have := hd b hb; omega, fun _ => by omega⟩

theorem Post.bump (h : WRel σ N0 w0 ρ s w) (hb : bump s room = .ok s') : Post σ N0 w0 ρ s w ρ s' w := by
  obtain ⟨e1, e2, e3, e4, e5⟩ := bump_ok hb
  have hbn := h.bnd
  refine ⟨Ext.refl _, fun _ _ h => .inl h, by omega, e4, by omega, fun b _ _ => by rw [e1], fun b _ hl => by rw [e1] at hl; exact hl, ?_, fun _ _ _ => rfl, Nat.le_refl _⟩
  refine ⟨h.base, h.n0, by omega, fun b b' L L' h1 h2 h3 h4 => ?_, fun b hb => ?_, fun b L e => ?_, fun b o hb L e => ?_⟩
  · rw [e4] at h1 h2; rw [e1] at h3 h4; exact h.inj b b' L L' h1 h2 h3 h4
  · rw [e1] at hb; have := h.dom b hb; omega
  · rw [e4]; exact h.rng b L e
  · rw [e1] at hb; rw [e4]; exact h.heap b o hb L e

/-- A block that a call has laid gets a name. -/
theorem Post.newAt {o : AObj} {L : Loc} (h : WRel σ N0 w0 ρ s w) (hb : Below w.heap.size w w') (ha : s.alloc o = .ok s') (hf : Fresh ρ s.next s'.next)
    (hL : w.heap.size ≤ L.blk) (hL' : L.blk < w'.heap.size) (ho : ∀ ρ', Ext ρ ρ' → ORel σ ρ' L true w' o) :
    ∃ ρ', ρ' s.next = some L ∧ Post σ N0 w0 ρ s w ρ' s' w' := by
  obtain ⟨⟨e1, e1'⟩, e2, e3, e4⟩ := alloc_ok ha
  have hro := h.bnd.1
  have hfn : ρ s.next = none := hf s.next (Nat.le_refl _) (by omega)
  let ρ' : Ren := fun b => if b = s.next then some L else ρ b
  have hρ : ρ' s.next = some L := by simp [ρ']
  have hne : ∀ b, b ≠ s.next → ρ' b = ρ b := fun b hb => by simp [ρ', hb]
  have ext : Ext ρ ρ' := fun b L e => by
    by_cases hb : b = s.next
    · subst hb; rw [hfn] at e; cases e
    · rw [hne b hb]; exact e
  have blk := hb.block
  have hsz := hb.size
  refine ⟨ρ', hρ, ext, fun b L' e => ?_, by omega, e3, by omega, fun b h1 _ => by rw [e4, if_neg (by omega)], fun b h1 => by rw [e4, if_neg (by omega)]; exact id, ?_, fun c hc _ => blk c hc, hsz⟩
  · by_cases hb : b = s.next
    · subst hb
      rw [hρ] at e
      cases e
      exact .inr ⟨Nat.le_refl _, by omega, .inl hL⟩
    · rw [hne b hb] at e; exact .inl e
  · have hn0 := h.n0
    refine ⟨h.base.trans (hb.mono h.n0), by omega, by omega, fun b b' M M' hr hr' hb hb' eb eb' hM => ?_, fun b hb => ?_, fun b M e => ?_, fun b o' hb M e => ?_⟩
    · rw [e3] at hr hr'
      rw [e4] at hb hb'
      by_cases h1 : b = s.next
      · by_cases h2 : b' = s.next
        · omega
        · exfalso
          subst h1
          rw [hne b' h2] at eb'
          rw [hρ] at eb
          cases eb
          have := (h.rng b' M' eb').1
          omega
      · by_cases h2 : b' = s.next
        · exfalso
          subst h2
          rw [hne b h1] at eb
          rw [hρ] at eb'
          cases eb'
          have := (h.rng b M eb).1
          omega
        · rw [if_neg h1] at hb
          rw [if_neg h2] at hb'
          rw [hne b h1] at eb
          rw [hne b' h2] at eb'
          exact h.inj b b' M M' hr hr' hb hb' eb eb' hM
    · rw [e4] at hb
      by_cases h1 : b = s.next
      · omega
      · rw [if_neg h1] at hb; have := h.dom b hb; omega
    · rw [e3]
      by_cases h1 : b = s.next
      · subst h1
        rw [hρ] at e
        cases e
        exact ⟨hL', fun _ => by omega, fun h2 => by omega⟩
      · rw [hne b h1] at e
        have := h.rng b M e
        exact ⟨by omega, this.2⟩
    · rw [e4] at hb
      rw [e3]
      by_cases h1 : b = s.next
      · subst h1
        rw [if_pos rfl] at hb
        cases hb
        rw [hρ] at e
        cases e
        simpa [hro] using ho ρ' ext
      · rw [if_neg h1] at hb
        rw [hne b h1] at e
        exact (h.heap b o' hb M e).mono ext |>.of_block (blk _ (h.rng b M e).1)

theorem setLow_parts (s : AState) (l : Nat) : (setLow s l).next = s.next ∧ (setLow s l).heap = s.heap ∧ (setLow s l).ro = s.ro := by
  obtain ⟨hp, n, lw, ro⟩ := s
  exact ⟨rfl, rfl, rfl⟩

/-- What turned nothing old. -/
theorem Post.quiet {ρ' : Ren} (hw : WRel σ N0 w0 ρ s w) (hP : Post σ N0 w0 ρ (Am.setLow s big) w ρ' s' w') (hl : s.next ≤ s'.low) : Below w.heap.size w w' := by
  have h1 := hP.wrel.base
  have h2 := hw.base
  refine ⟨h1.os.trans h2.os.symm, h1.tape.trans h2.tape.symm, h1.output.trans h2.output.symm, hP.size, fun k hk => hP.frame k hk fun b L hb hl' => ?_⟩
  rw [(setLow_parts s big).1] at hb
  omega

theorem ORel.lits {ρ' : Ren} {L : Loc} {r : Bool} {cs : List AVal} {g : Bool} (hl : cs.all isLit = true) (h : ORel σ ρ L r w (.cells cs g)) : ORel σ ρ' L r w (.cells cs g) := by
  obtain ⟨h1, h2, h3⟩ := h
  refine ⟨fun j v hj => ?_, h2, h3⟩
  obtain ⟨u, hu, hv⟩ := h1 j v hj
  refine ⟨u, hu, ?_⟩
  have := List.all_eq_true.1 hl v (List.mem_of_getElem? hj)
  cases v <;> first | exact hv | cases this

theorem sumX_lit {next : Nat} {v : AVal} {v1 : Value} (h : sumX next (.val v) s = .ok (.lit v1)) : v = .lit v1 ∧ next ≤ s.low := by
  cases v with
  | lit v =>
    replace h : (bif Nat.ble next s.low then R.ok (XRes.lit v) else .fail "what is old is turned") = .ok (.lit v1) := h
    cases hq : Nat.ble next s.low with
    | false => rw [hq] at h; cases h
    | true => rw [hq] at h; cases h; exact ⟨rfl, Nat.le_of_ble_eq_true hq⟩
  | slice b o n cap =>
    unfold sumX at h
    simp only [] at h
    cases hq : (Nat.beq o 0 && (Nat.ble next s.low && Nat.ble next b)) with
    | false => rw [hq] at h; cases h
    | true =>
      rw [hq, cond_true] at h
      replace h := R.bind_ok' h
      obtain ⟨ob, _, h⟩ := h
      split at h
      · rename_i cs g h0
        cases hq2 : cs.all isLit with
        | false => rw [hq2] at h; cases h
        | true => rw [hq2] at h; cases h
      · cases h
  | _ => cases h

theorem sumX_row {next : Nat} {v : AVal} {n : Nat} {cap : ACap} {g : Bool} {cs : List AVal} (h : sumX next (.val v) s = .ok (.row n cap g cs)) :
    ∃ b, v = .slice b 0 n cap ∧ next ≤ s.low ∧ next ≤ b ∧ s.heap.get b = some (.cells cs g) ∧ cs.all isLit = true := by
  cases v with
  | lit v =>
    replace h : (bif Nat.ble next s.low then R.ok (XRes.lit v) else .fail "what is old is turned") = .ok (.row n cap g cs) := h
    cases hq : Nat.ble next s.low with
    | false => rw [hq] at h; cases h
    | true => rw [hq] at h; cases h
  | slice b o n' cap' =>
    unfold sumX at h
    simp only [] at h
    cases hq : (Nat.beq o 0 && (Nat.ble next s.low && Nat.ble next b)) with
    | false => rw [hq] at h; cases h
    | true =>
      rw [hq, cond_true] at h
      simp only [Bool.and_eq_true] at hq
      replace h := R.bind_ok' h
      obtain ⟨ob, ho, h⟩ := h
      split at h
      · rename_i cs' g'
        cases hq2 : cs'.all isLit with
        | false => rw [hq2] at h; cases h
        | true =>
          rw [hq2] at h
          cases h
          have := Nat.eq_of_beq_eq_true hq.1
          subst this
          exact ⟨b, rfl, Nat.le_of_ble_eq_true hq.2.1, Nat.le_of_ble_eq_true hq.2.2, get_ok ho, hq2⟩
      · cases h
  | _ => cases h

theorem exploreX_ok (hm : P.follows .mixedOrders = true) {prims : Prims} (hp : ∀ f p, prims f = some p → PrimOk P σ N0 w0 f p) {n : Nat} {f : FuncId} (hf : plainFn P f = true) : PrimOk P σ N0 w0 f (exploreX P prims n room f) := by
  refine ⟨fun args s v s' h => ?_, fun args s v s' h ρ w us hw hfr hv => ?_⟩
  · unfold exploreX at h
    replace h := R.bind_ok' h
    obtain ⟨r, _, h⟩ := h
    cases r with
    | lit v =>
      replace h := R.bind_ok' h
      obtain ⟨s1, h1, h⟩ := h
      cases h
      exact Abs.bump h1
    | row n cap g cs =>
      replace h := R.bind_ok' h
      obtain ⟨s1, h1, h⟩ := h
      replace h := R.bind_ok' h
      obtain ⟨s2, h2, h⟩ := h
      cases h
      exact (Abs.bump h1).trans (Abs.alloc h2)
  · unfold exploreX at h
    replace h := R.bind_ok' h
    obtain ⟨r, hr, h⟩ := h
    have hX := (runX_ok (M := Nat.add s.next room) (both := false) (by simp) hm (run_ok (facts := noFacts) hm noFacts_ok hp n) eqRes_ok hp n).call _ _ _ _ _ hr hf
    have hn := (setLow_parts s big).1
    have hroom : ∀ m, s.next + room ≤ m → Fresh ρ s.next m → Room (Nat.add s.next room) ρ (Am.setLow s big) := fun m hm hf => ⟨by rw [hn]; show s.next ≤ s.next + room; omega, by rw [hn]; exact hf.mono (Nat.le_refl _) hm⟩
    cases r with
    | lit v1 =>
      replace h := R.bind_ok' h
      obtain ⟨s1, h1, h⟩ := h
      cases h
      obtain ⟨b1, b2, b3, b4, b5⟩ := bump_ok h1
      refine (hX ρ w us (hw.setLow big) (hroom _ (by omega) hfr) hv).mono fun e w' ⟨v2, s2, hk, hM, u, ρ', he, hvu, hP⟩ => ?_
      replace hk : sumX s.next (.val v2) s2 = .ok (.lit v1) := hk
      obtain ⟨rfl, hlow⟩ := sumX_lit hk
      have hb := Post.quiet hw hP hlow
      refine ⟨u, ρ, he, hvu, ?_⟩
      have h2 := Post.bump hw h1
      exact h2.trans hfr (Post.wider h2.wrel hb.size hb.block ⟨hb.os, hb.tape, hb.output⟩)
    | row n1 cap g cs =>
      replace h := R.bind_ok' h
      obtain ⟨s1, h1, h⟩ := h
      replace h := R.bind_ok' h
      obtain ⟨s2, h2, h⟩ := h
      cases h
      obtain ⟨b1, b2, b3, b4, b5⟩ := bump_ok h1
      obtain ⟨⟨c1, c1'⟩, c2, c3, c4⟩ := alloc_ok h2
      refine (hX ρ w us (hw.setLow big) (hroom _ (by omega) hfr) hv).mono fun e w' ⟨v2, s3, hk, hM, u, ρ', he, hvu, hP⟩ => ?_
      replace hk : sumX s.next (.val v2) s3 = .ok (.row n1 cap g cs) := hk
      obtain ⟨b, rfl, hlow, hbn, hget, hlits⟩ := sumX_row hk
      have hb := Post.quiet hw hP hlow
      have hbM : b < s3.next := hP.wrel.dom b (by rw [hget]; simp)
      have hM' : s3.next ≤ s.next + room := hM
      have key : ∀ L, ρ' b = some L → w.heap.size ≤ L.blk ∧ L.blk < w'.heap.size ∧ ORel σ ρ' L true w' (.cells cs g) := fun L hL => by
        refine ⟨?_, (hP.wrel.rng b L hL).1, ?_⟩
        · rcases hP.new b L hL with h3 | ⟨_, _, h3 | ⟨b0, L0, g1, g2, _⟩⟩
          · rw [hfr b hbn (by omega)] at h3; cases h3
          · exact h3
          · rw [hn] at g1; omega
        · have := hP.wrel.heap b _ hget L hL
          have hro : s3.ro ≤ b := by rw [hP.ro, (setLow_parts s big).2.2]; have := hw.bnd; omega
          simpa [hro] using this
      have fin : ∀ L, ρ' b = some L → ∃ ρ'', ρ'' s1.next = some L ∧ Post σ N0 w0 ρ s w ρ'' s' w' := fun L hL => by
        obtain ⟨k1, k2, k3⟩ := key L hL
        have h3 := Post.bump hw h1
        obtain ⟨ρ'', g1, g2⟩ := Post.newAt h3.wrel hb h2 (hfr.mono (by omega) (Nat.le_refl _)) k1 k2 (fun ρ2 _ => k3.lits hlits)
        exact ⟨ρ'', g1, h3.trans (hfr.mono (Nat.le_refl _) (by omega)) g2⟩
      cases cap with
      | known k =>
        obtain ⟨L, hL, rfl⟩ := hvu
        obtain ⟨ρ'', g1, g2⟩ := fin L hL
        exact ⟨_, ρ'', he, ⟨L, g1, rfl⟩, g2⟩
      | grown k =>
        obtain ⟨L, kk, hL, rfl, hrest⟩ := hvu
        obtain ⟨ρ'', g1, g2⟩ := fin L hL
        exact ⟨_, ρ'', he, ⟨L, kk, g1, rfl, hrest⟩, g2⟩

end
end Go.Am


/-
  Facts on unknown numbers whose bounds are known: comparisons, the lesser and the greater one.
-/
namespace Go.Am
open Go Go.RowKit
set_option linter.unusedVariables false
set_option linter.unusedSimpArgs false

/-- The kind and the bounds of an unknown number. -/
abbrev Bnds := Nat → Option (IntKind × Option Int × Option Int)

def geLo (lo : Option Int) (d : Int) : Bool := match lo with | some l => decide (d ≤ l) | none => false
def leHi (hi : Option Int) (d : Int) : Bool := match hi with | some h => decide (h ≤ d) | none => false

def yesNo (y n : Bool) : Option Bool := bif y then some true else bif n then some false else none

def cmpFact (bop : BinOp) (lo hi : Option Int) (d : Int) : Option Bool :=
  match bop with
  | .lss => yesNo (leHi hi (d - 1)) (geLo lo d)
  | .leq => yesNo (leHi hi d) (geLo lo (d + 1))
  | .gtr => yesNo (geLo lo (d + 1)) (leHi hi d)
  | .geq => yesNo (geLo lo d) (leHi hi (d - 1))
  | .eql => yesNo false (leHi hi (d - 1) || geLo lo (d + 1))
  | .neq => yesNo (leHi hi (d - 1) || geLo lo (d + 1)) false
  | _ => none

def maxFact (lo hi : Option Int) (i : Nat) (k : IntKind) (d : Int) : Option AVal := bif leHi hi d then some (.lit (.int k d)) else bif geLo lo d then some (.sym i) else none
def minFact (lo hi : Option Int) (i : Nat) (k : IntKind) (d : Int) : Option AVal := bif geLo lo d then some (.lit (.int k d)) else bif leHi hi d then some (.sym i) else none

def intFact (B : Bnds) (i : Nat) (k : IntKind) (f : Option Int → Option Int → Option AVal) : Option AVal :=
  match B i with
  | some (k', lo, hi) => bif decide (k = k') then f lo hi else none
  | none => none

def intFacts (B : Bnds) : Facts := fun op vs => match op, vs with
  | .binOp bop _ _ _ _, [.sym i, .lit (.int k d)] => intFact B i k fun lo hi => (cmpFact bop lo hi d).map fun b => .lit (.bool b)
  | .call ⟨.builtin .max, _, _⟩, [.sym i, .lit (.int k d)] => intFact B i k fun lo hi => maxFact lo hi i k d
  | .call ⟨.builtin .min, _, _⟩, [.sym i, .lit (.int k d)] => intFact B i k fun lo hi => minFact lo hi i k d
  | _, _ => none

section
variable {P : Program} {σ : Syms} {B : Bnds}

def BndsOk (σ : Syms) (B : Bnds) : Prop := ∀ i k lo hi, B i = some (k, lo, hi) → (σ i).1 = k ∧ (∀ l, lo = some l → l ≤ (σ i).2) ∧ (∀ h, hi = some h → (σ i).2 ≤ h)

theorem geLo_ok {lo : Option Int} {d a : Int} (h : geLo lo d = true) (hl : ∀ l, lo = some l → l ≤ a) : d ≤ a := by
  unfold geLo at h
  split at h
  · rename_i l
    have := hl l rfl
    have := of_decide_eq_true h
    omega
  · cases h

theorem leHi_ok {hi : Option Int} {d a : Int} (h : leHi hi d = true) (hl : ∀ l, hi = some l → a ≤ l) : a ≤ d := by
  unfold leHi at h
  split at h
  · rename_i l
    have := hl l rfl
    have := of_decide_eq_true h
    omega
  · cases h

theorem yesNo_ok {y n b : Bool} (h : yesNo y n = some b) : (b = true ∧ y = true) ∨ (b = false ∧ n = true) := by
  unfold yesNo at h
  cases y with
  | true => rw [cond_true] at h; cases h; exact .inl ⟨rfl, rfl⟩
  | false =>
    rw [cond_false] at h
    cases n with
    | true => rw [cond_true] at h; cases h; exact .inr ⟨rfl, rfl⟩
    | false => cases h

theorem cmp_run {bop : BinOp} {lo hi : Option Int} {k : IntKind} {a d : Int} {b : Bool} (h : cmpFact bop lo hi d = some b) (hl : ∀ l, lo = some l → l ≤ a) (hh : ∀ l, hi = some l → a ≤ l) (t : TypeId) (w : World) (ox oy : Operand) :
    (do eqGuard bop t ox oy (.int k a) (.int k d); binOp bop t (.int k a) (.int k d) : Sem Value).run P w = .ok (.bool b) w := by
  have g : ∀ (h2 : (binOp bop t (.int k a) (.int k d)).run P w = .ok (.bool b) w), (do eqGuard bop t ox oy (.int k a) (.int k d); binOp bop t (.int k a) (.int k d) : Sem Value).run P w = .ok (.bool b) w := fun h2 => by
    rw [Sem.run_bind]
    have : (eqGuard bop t ox oy (.int k a) (.int k d)).run P w = .ok () w := by
      unfold cmpFact at h
      split at h <;> first | (simp [eqGuard]; done) | cases h
    rw [this, Result.andThen_ok, h2]
  refine g ?_
  unfold cmpFact at h
  split at h
  · rw [binOp_lss, Sem.run_pure]
    rcases yesNo_ok h with ⟨rfl, q⟩ | ⟨rfl, q⟩
    · have := leHi_ok q hh; rw [show decide (a < d) = true from decide_eq_true (by omega)]
    · have := geLo_ok q hl; rw [show decide (a < d) = false from decide_eq_false (by omega)]
  · rw [binOp_leq, Sem.run_pure]
    rcases yesNo_ok h with ⟨rfl, q⟩ | ⟨rfl, q⟩
    · have := leHi_ok q hh; rw [show decide (a ≤ d) = true from decide_eq_true (by omega)]
    · have := geLo_ok q hl; rw [show decide (a ≤ d) = false from decide_eq_false (by omega)]
  · rw [binOp_gtr, Sem.run_pure]
    rcases yesNo_ok h with ⟨rfl, q⟩ | ⟨rfl, q⟩
    · have := geLo_ok q hl; rw [show decide (a > d) = true from decide_eq_true (by omega)]
    · have := leHi_ok q hh; rw [show decide (a > d) = false from decide_eq_false (by omega)]
  · rw [binOp_geq, Sem.run_pure]
    rcases yesNo_ok h with ⟨rfl, q⟩ | ⟨rfl, q⟩
    · have := geLo_ok q hl; rw [show decide (a ≥ d) = true from decide_eq_true (by omega)]
    · have := leHi_ok q hh; rw [show decide (a ≥ d) = false from decide_eq_false (by omega)]
  · rw [Go.binOp_eql, Sem.run_pure]
    rcases yesNo_ok h with ⟨_, q⟩ | ⟨rfl, q⟩
    · cases q
    · have hne : a ≠ d := by
        rcases (Bool.or_eq_true _ _).mp q with q | q
        · have := leHi_ok q hh; omega
        · have := geLo_ok q hl; omega
      rw [show (a == d) = false from by simpa using hne]
  · rw [binOp_neq, Sem.run_pure]
    rcases yesNo_ok h with ⟨rfl, q⟩ | ⟨_, q⟩
    · have hne : a ≠ d := by
        rcases (Bool.or_eq_true _ _).mp q with q | q
        · have := leHi_ok q hh; omega
        · have := geLo_ok q hl; omega
      rw [show (a != d) = true from by simpa using hne]
    · cases q
  · cases h

theorem intFact_ok {i : Nat} {k : IntKind} {f : Option Int → Option Int → Option AVal} {v : AVal} (hB : BndsOk σ B) (h : intFact B i k f = some v) :
    ∃ lo hi, (σ i).1 = k ∧ (∀ l, lo = some l → l ≤ (σ i).2) ∧ (∀ h, hi = some h → (σ i).2 ≤ h) ∧ f lo hi = some v := by
  unfold intFact at h
  split at h
  · rename_i k' lo hi hb
    cases hq : decide (k = k') with
    | false => rw [hq] at h; cases h
    | true =>
      rw [hq, cond_true] at h
      obtain ⟨h1, h2, h3⟩ := hB _ _ _ _ hb
      exact ⟨lo, hi, by rw [h1]; exact (of_decide_eq_true hq).symm, h2, h3, h⟩
  · cases h

theorem two_args {ρ : Ren} {i : Nat} {k : IntKind} {d : Int} {us : List Value} (h : VRels σ ρ [.sym i, .lit (.int k d)] us) : us = [.int (σ i).1 (σ i).2, .int k d] := by
  obtain ⟨u1, r1, e1, hu1, u2, r2, e2, ⟨hu2, _⟩, e3⟩ := h
  replace hu1 : u1 = .int (σ i).1 (σ i).2 := hu1
  rw [e1, e2, e3, hu1, hu2]

theorem intFacts_ok (hB : BndsOk σ B) : FactsOk P σ (intFacts B) := by
  intro op vs v hv ρ e w hr
  unfold intFacts at hv
  split at hv
  · rename_i bop t x y yt i k d
    obtain ⟨lo, hi, h1, h2, h3, h4⟩ := intFact_ok hB hv
    obtain ⟨b, h5, rfl⟩ := Option.map_eq_some_iff.1 h4
    have hop : (Op.binOp bop t x y yt).operands.toList.map e = [e x, e y] := by simp [Op.operands]
    rw [hop] at hr
    have hus := two_args hr
    simp only [List.cons.injEq, and_true] at hus
    refine ⟨.bool b, fun o ho => ?_, rfl, rfl⟩
    have h6 := cmp_run (P := P) (k := k) h5 h2 h3 t w x y
    unfold execOp
    rw [ho]
    simp only []
    rw [hus.1, hus.2, h1, Sem.run_bind, h6]
    rfl
  · rename_i ars ts i k d
    obtain ⟨lo, hi, h1, h2, h3, h4⟩ := intFact_ok hB hv
    have hop : (Op.call ⟨.builtin .max, ars, ts⟩).operands.toList.map e = (ars.map e).toList := by simp [Op.operands, Call.operands]
    rw [hop] at hr
    have hus := two_args hr
    refine ⟨.int k (if d > (σ i).2 then d else (σ i).2), fun o ho => ?_, ?_⟩
    · unfold execOp
      rw [ho]
      show Sem.run P (do let d ← resolve e ⟨.builtin .max, ars, ts⟩ o.type; invoke d.target d.args) w = _
      simp only [resolve, Sem.run_bind, Sem.run_pure, Result.andThen_ok, invoke]
      show Sem.run P (do pure (Next.value (← Builtin.max_ ts o.type (ars.map e)))) w = _
      rw [Sem.run_bind]
      have : (Builtin.max_ ts o.type (ars.map e)).run P w = .ok (.int k (if d > (σ i).2 then d else (σ i).2)) w := by
        simp only [Builtin.max_, hus, h1]
        rw [List.foldlM_cons, Sem.run_bind]
        rfl
      rw [this]
      rfl
    · unfold maxFact at h4
      cases hq : leHi hi d with
      | true =>
        rw [hq, cond_true] at h4
        cases h4
        have := leHi_ok hq h3
        refine ⟨?_, rfl⟩
        by_cases hd : d > (σ i).2
        · rw [if_pos hd]
        · rw [if_neg hd, show (σ i).2 = d by omega]
      | false =>
        rw [hq, cond_false] at h4
        cases hq2 : geLo lo d with
        | true =>
          rw [hq2, cond_true] at h4
          cases h4
          have := geLo_ok hq2 h2
          show _ = Value.int (σ i).1 (σ i).2
          rw [if_neg (by omega), h1]
        | false => rw [hq2] at h4; cases h4
  · rename_i ars ts i k d
    obtain ⟨lo, hi, h1, h2, h3, h4⟩ := intFact_ok hB hv
    have hop : (Op.call ⟨.builtin .min, ars, ts⟩).operands.toList.map e = (ars.map e).toList := by simp [Op.operands, Call.operands]
    rw [hop] at hr
    have hus := two_args hr
    refine ⟨.int k (if d < (σ i).2 then d else (σ i).2), fun o ho => ?_, ?_⟩
    · unfold execOp
      rw [ho]
      show Sem.run P (do let d ← resolve e ⟨.builtin .min, ars, ts⟩ o.type; invoke d.target d.args) w = _
      simp only [resolve, Sem.run_bind, Sem.run_pure, Result.andThen_ok, invoke]
      show Sem.run P (do pure (Next.value (← Builtin.min_ ts o.type (ars.map e)))) w = _
      rw [Sem.run_bind]
      have : (Builtin.min_ ts o.type (ars.map e)).run P w = .ok (.int k (if d < (σ i).2 then d else (σ i).2)) w := by
        simp only [Builtin.min_, hus, h1]
        rw [List.foldlM_cons, Sem.run_bind]
        rfl
      rw [this]
      rfl
    · unfold minFact at h4
      cases hq : geLo lo d with
      | true =>
        rw [hq, cond_true] at h4
        cases h4
        have := geLo_ok hq h2
        refine ⟨?_, rfl⟩
        by_cases hd : d < (σ i).2
        · rw [if_pos hd]
        · rw [if_neg hd, show (σ i).2 = d by omega]
      | false =>
        rw [hq, cond_false] at h4
        cases hq2 : leHi hi d with
        | true =>
          rw [hq2, cond_true] at h4
          cases h4
          have := leHi_ok hq2 h3
          show _ = Value.int (σ i).1 (σ i).2
          rw [if_neg (by omega), h1]
        | false => rw [hq2] at h4; cases h4
  · cases hv

end
end Go.Am


/-
  Contracts that the library's proved summaries give: a map's keys, sorted; a new row of cells.
-/
namespace Go.Am
open Go Go.RowKit
open Go.WideElems (Fit rd rg pl rd_key rd_val rg_of)
set_option linter.unusedVariables false
set_option linter.unusedSimpArgs false

/-! ### Insertion -/
def ins (a : Int) : List Int → List Int
  | [] => [a]
  | b :: r => bif decide (a ≤ b) then a :: b :: r else b :: ins a r

def isort : List Int → List Int
  | [] => []
  | a :: r => ins a (isort r)

theorem ins_perm (a : Int) : ∀ l, (ins a l).Perm (a :: l)
  | [] => List.Perm.refl _
  | b :: r => by
    unfold ins
    cases hq : decide (a ≤ b) with
    | true => exact List.Perm.refl _
    | false => exact ((ins_perm a r).cons b).trans (List.Perm.swap a b r)

theorem isort_perm : ∀ l, (isort l).Perm l
  | [] => List.Perm.refl _
  | a :: r => (ins_perm a _).trans ((isort_perm r).cons a)

theorem ins_sorted (a : Int) : ∀ l : List Int, l.Pairwise (fun x y => x ≤ y) → (ins a l).Pairwise (fun x y => x ≤ y)
  | [], _ => by simp [ins]
  | b :: r, h => by
    unfold ins
    obtain ⟨h1, h2⟩ := List.pairwise_cons.1 h
    cases hq : decide (a ≤ b) with
    | true =>
      have hab := of_decide_eq_true hq
      refine List.pairwise_cons.2 ⟨fun x hx => ?_, h⟩
      rcases List.mem_cons.1 hx with rfl | hx
      · exact hab
      · exact Int.le_trans hab (h1 x hx)
    | false =>
      have hab := of_decide_eq_false hq
      refine List.pairwise_cons.2 ⟨fun x hx => ?_, ins_sorted a r h2⟩
      rcases List.mem_cons.1 ((ins_perm a r).mem_iff.1 hx) with rfl | hx
      · omega
      · exact h1 x hx

theorem isort_sorted : ∀ l : List Int, (isort l).Pairwise (fun x y => x ≤ y)
  | [] => List.Pairwise.nil
  | a :: r => ins_sorted a _ (isort_sorted r)

theorem isort_eq {l l' : List Int} (h : l.Perm l') : l.mergeSort leI = isort l' := by
  have tr : ∀ a b c : Int, leI a b = true → leI b c = true → leI a c = true := fun a b c h1 h2 => by simp only [leI, decide_eq_true_eq] at *; exact Int.le_trans h1 h2
  have to : ∀ a b : Int, (leI a b || leI b a) = true := fun a b => by simp only [leI, Bool.or_eq_true, decide_eq_true_eq]; exact Int.le_total a b
  refine List.Perm.eq_of_pairwise (le := fun a b => leI a b = true) (fun a b _ _ h1 h2 => ?_) (List.pairwise_mergeSort tr to l) ((isort_sorted l').imp fun h => decide_eq_true h) (((List.mergeSort_perm l leI).trans h).trans (isort_perm l').symm)
  simp only [leI, decide_eq_true_eq] at h1 h2
  exact Int.le_antisymm h1 h2

/-! ### Maps whose keys are integers -/
def keyI (q : IntKind) (e : AEntry) : Option Int := match e.key with
  | .int k a => bif decide (k = q) && (Lit.int q a).wf then some a else none
  | _ => none

def keysI (q : IntKind) : List AEntry → Option (List Int)
  | [] => some []
  | e :: r => match keyI q e, keysI q r with
    | some a, some l => some (a :: l)
    | _, _ => none

def apartN : List Nat → Bool
  | [] => true
  | a :: r => r.all (fun b => !Nat.beq a b) && apartN r

def apartI : List Int → Bool
  | [] => true
  | a :: r => r.all (fun b => !decide (a = b)) && apartI r

theorem apartN_ok : ∀ {l : List Nat}, apartN l = true → l.Nodup
  | [], _ => List.nodup_nil
  | a :: r, h => by
    simp only [apartN, Bool.and_eq_true] at h
    refine List.nodup_cons.2 ⟨fun ha => ?_, apartN_ok h.2⟩
    have := List.all_eq_true.1 h.1 a ha
    simp [Nat.beq_refl] at this

theorem apartI_ok : ∀ {l : List Int}, apartI l = true → l.Nodup
  | [], _ => List.nodup_nil
  | a :: r, h => by
    simp only [apartI, Bool.and_eq_true] at h
    refine List.nodup_cons.2 ⟨fun ha => ?_, apartI_ok h.2⟩
    have := List.all_eq_true.1 h.1 a ha
    simp at this

theorem keyI_ok {q : IntKind} {e : AEntry} {a : Int} (h : keyI q e = some a) : e.key = .int q a ∧ (Lit.int q a).wf = true := by
  unfold keyI at h
  split at h
  · rename_i k b hk
    cases hq : (decide (k = q) && (Lit.int q b).wf) with
    | false => rw [hq] at h; cases h
    | true =>
      rw [hq] at h
      cases h
      simp only [Bool.and_eq_true] at hq
      have := of_decide_eq_true hq.1
      subst this
      exact ⟨hk, hq.2⟩
  · cases h

section
variable {σ : Syms} {N0 : Nat} {w0 : World} {P : Program} {ρ : Ren} {s s' : AState} {w w' : World}

theorem keysI_ok {q : IntKind} : ∀ {es : List AEntry} {ms : List MapEntry} {l : List Int}, keysI q es = some l → ERels σ ρ es ms → ms.map (·.key) = l.map (Value.int q) ∧ (∀ a ∈ l, (Lit.int q a).wf = true) ∧ ms.map (·.born) = es.map (·.born)
  | [], ms, l, h, hr => by
    simp only [ERels] at hr
    subst hr
    cases h
    exact ⟨rfl, fun a ha => absurd ha (List.not_mem_nil), rfl⟩
  | e :: r, ms, l, h, ⟨m, ns, e1, h2, h3, h4, h5⟩ => by
    subst e1
    unfold keysI at h
    split at h
    · rename_i a l' ha hl
      cases h
      obtain ⟨k1, k2⟩ := keyI_ok ha
      obtain ⟨i1, i2, i3⟩ := keysI_ok hl h5
      refine ⟨?_, fun b hb => ?_, ?_⟩
      · simp only [List.map_cons, i1, h2, k1]
      · rcases List.mem_cons.1 hb with rfl | hb
        · exact k2
        · exact i2 b hb
      · simp only [List.map_cons, i3, h3]
    · cases h

/-- A map with integers for keys, whatever it holds. -/
def fitK (q : IntKind) (es : List AEntry) (c : Nat) : Option (List Int) := match keysI q es with
  | some l => bif Nat.ble es.length 100000 && (es.all (fun e => Nat.blt e.born c) && (apartN (es.map (·.born)) && apartI l)) then some l else none
  | none => none

abbrev anyR {H : Type} : Value → Option (DataW H × List MemPlace) := fun _ => some (.nil, [])

theorem fitK_ok {H : Type} {es : List AEntry} {c : Nat} {l : List Int} {k : TypeId} (hk : P.underlying k = some (.int .i64)) (h : fitK .i64 es c = some l) {b : Nat} {ms : Array MapEntry} (hb : w.heap[b]? = some (.map ms c)) (hr : ERels σ ρ es ms.toList) :
    ∃ D0 : DataW H, w.ownsMap P k anyR b es.length D0 ∧ l.Perm (intKeys D0) ∧ Maps.size D0 = es.length ∧ es.length ≤ 100000 := by
  unfold fitK at h
  split at h
  · rename_i l' hl
    cases hq : (Nat.ble es.length 100000 && (es.all (fun e => Nat.blt e.born c) && (apartN (es.map (·.born)) && apartI l'))) with
    | false => rw [hq] at h; cases h
    | true =>
      rw [hq, cond_true] at h
      cases h
      simp only [Bool.and_eq_true] at hq
      obtain ⟨q1, q2, q3, q4⟩ := hq
      have q1 := Nat.le_of_ble_eq_true q1
      obtain ⟨i1, i2, i3⟩ := keysI_ok hl hr
      have hlen := hr.length
      have hrd : ∀ x ∈ ms.toList, ∃ a, x.key = .int .i64 a ∧ rd (H := H) P k anyR x = some (.int .i64 a, .nil) := fun x hx => by
        have : x.key ∈ ms.toList.map (·.key) := List.mem_map_of_mem hx
        rw [i1] at this
        obtain ⟨a, ha, hxa⟩ := List.mem_map.1 this
        refine ⟨a, hxa.symm, ?_⟩
        have hkey : keyOf P k x.key = some (.int .i64 a) := by
          rw [← hxa]
          simp [keyOf, hk, mapKey, i2 a ha]
        simp [rd, hkey]
      have F : Fit (H := H) P k anyR ms c := by
        refine ⟨by have : maxLen = 9223372036854775807 := rfl; simp only [Array.length_toList] at hlen; omega, ⟨fun x hx => ?_, ?_, ?_⟩, fun x hx => ?_⟩
        · have : x.born ∈ ms.toList.map (·.born) := List.mem_map_of_mem hx
          rw [i3] at this
          obtain ⟨e, he, hxe⟩ := List.mem_map.1 this
          rw [← hxe]
          exact Nat.le_of_ble_eq_true (List.all_eq_true.1 q2 e he)
        · rw [i3]; exact apartN_ok q3
        · rw [i1]
          exact List.pairwise_map.2 ((apartI_ok q4).imp fun hne e => hne (by simpa using e))
        · obtain ⟨a, _, h2⟩ := hrd x hx
          exact ⟨_, h2⟩
      refine ⟨.map ((ms.toList.map (rg P k anyR)).foldr DataW.insert []), ⟨ms, c, hb, F, by simp only [Array.length_toList] at hlen; omega, rfl⟩, ?_, ?_, q1⟩
      · have hp := (Go.WideShapes.sorted_perm (ms.toList.map (rg (H := H) P k anyR))).map (fun p => intOf p.1)
        refine List.Perm.trans ?_ hp.symm
        have : (ms.toList.map (rg (H := H) P k anyR)).map (fun p => intOf p.1) = l := by
          rw [List.map_map]
          have h1 : ∀ x ∈ ms.toList, (fun p => intOf p.1) (rg (H := H) P k anyR x) = (match x.key with | .int _ a => a | _ => 0) := fun x hx => by
            obtain ⟨a, h1, h2⟩ := hrd x hx
            rw [rg_of h2, h1]
            rfl
          have h2 : ms.toList.map ((fun p => intOf p.1) ∘ rg (H := H) P k anyR) = ms.toList.map ((fun v => (match v with | .int _ a => a | _ => 0 : Int)) ∘ (fun x : MapEntry => x.key)) := List.map_congr_left fun x hx => h1 x hx
          rw [h2, ← List.map_map, i1, List.map_map]
          simp [Function.comp_def]
        rw [this]
      · show (((ms.toList.map (rg (H := H) P k anyR)).foldr DataW.insert []).length) = es.length
        rw [Go.length_sorted]
        simp only [List.length_map]
        exact hlen
  · cases h

/-- A new row of integers that a call hands back. -/
theorem Post.newRow {e : TypeId} {q : IntKind} {g cap : Nat} {cur : Array Value} {l : List Int} (h : WRel σ N0 w0 ρ s w) (hb : Below w.heap.size w w') (ha : s.alloc (.cells (l.map fun a => .lit (.int q a)) true) = .ok s') (hf : Fresh ρ s.next s'.next)
    (hg : w.heap.size ≤ g) (hcur : w'.heap[g]? = some (.cells cur e (0, 0))) (hn : l.length ≤ cap) (hsz : cur.size = cap) (ht : cur.toList.take l.length = l.map (Value.int q)) :
    ∃ ρ', VRel σ ρ' (.slice s.next 0 l.length (.grown 1)) (.slice (some ⟨g, 0, none⟩) l.length cap) ∧ Post σ N0 w0 ρ s w ρ' s' w' := by
  have hlt : g < w'.heap.size := (Array.getElem?_eq_some_iff.1 hcur).1
  have hcell : ∀ i, w'.cell? ⟨g, i, none⟩ = cur[i]? := fun i => by simp [World.cell?, hcur]
  have hfr : ∀ i, w'.frozen? ⟨g, i, none⟩ = false := fun i => by simp [World.frozen?, hcur]
  obtain ⟨ρ', h1, h2⟩ := Post.newAt (L := ⟨g, 0, cap⟩) h hb ha hf hg hlt (fun ρ' _ => ⟨fun j v hj => by
      rw [List.getElem?_map] at hj
      obtain ⟨a, hja, rfl⟩ := Option.map_eq_some_iff.1 hj
      refine ⟨.int q a, ?_, rfl, rfl⟩
      show w'.cell? ⟨g, 0 + j, none⟩ = _
      rw [hcell, Nat.zero_add, ← Array.getElem?_toList]
      have hjl : j < l.length := (List.getElem?_eq_some_iff.1 hja).1
      have h3 : (cur.toList.take l.length)[j]? = (l.map (Value.int q))[j]? := by rw [ht]
      rw [List.getElem?_take_of_lt hjl, List.getElem?_map, hja] at h3
      exact h3, fun _ j _ => hfr _, fun _ => ⟨rfl, by simpa using hn, fun i hi => ⟨by
        show (w'.cell? ⟨g, i, none⟩).isSome = true
        rw [hcell]
        have h4 : i < cur.size := Nat.lt_of_lt_of_le hi (Nat.le_of_eq hsz.symm)
        simp [h4], hfr _⟩⟩⟩)
  exact ⟨ρ', ⟨⟨g, 0, cap⟩, cap, h1, rfl, hn, rfl, by show 0 + cap * 1 = cap; omega⟩, h2⟩

end
end Go.Am


/-
  What a call that sorts a few unknown numbers in place may do: it comes back, and turns no other block.
-/
namespace Go.Am
open Go Go.RowKit
set_option linter.unusedVariables false
set_option linter.unusedSimpArgs false

/-! ### Ranks -/
def rk (zs : List Int) (a : Int) : Nat := match zs with
  | [] => 0
  | z :: r => (if z < a then 1 else 0) + rk r a

def many (zs : List Int) (a : Int) : Nat := match zs with
  | [] => 0
  | z :: r => (if z = a then 1 else 0) + many r a

theorem many_pos {a : Int} : ∀ {zs : List Int}, a ∈ zs → 1 ≤ many zs a
  | z :: r, h => by
    unfold many
    rcases List.mem_cons.1 h with rfl | h
    · rw [if_pos rfl]; omega
    · have := many_pos h; omega

theorem rk_lt {a b : Int} (h : a < b) : ∀ zs : List Int, rk zs a + many zs a ≤ rk zs b
  | [] => Nat.le_refl _
  | z :: r => by
    have := rk_lt h r
    unfold rk many
    by_cases h1 : z < a
    · have h2 : ¬ z = a := by omega
      have h3 : z < b := by omega
      simp only [h1, h2, h3, if_true, if_false]; omega
    · by_cases h2 : z = a
      · have h3 : z < b := by omega
        simp only [h1, if_pos h2, h3, if_true, if_false]; omega
      · simp only [h1, h2, if_false]; split <;> omega

theorem rk_le {a b : Int} (h : a ≤ b) : ∀ zs : List Int, rk zs a ≤ rk zs b
  | [] => Nat.le_refl _
  | z :: r => by
    have := rk_le h r
    unfold rk
    by_cases h1 : z < a
    · have h3 : z < b := by omega
      simp only [h1, h3, if_true]; omega
    · simp only [h1, if_false]; split <;> omega

theorem rk_bound (a : Int) : ∀ zs : List Int, rk zs a + many zs a ≤ zs.length
  | [] => Nat.le_refl _
  | z :: r => by
    have := rk_bound a r
    unfold rk many
    simp only [List.length_cons]
    by_cases h1 : z < a
    · have h2 : ¬ z = a := by omega
      simp only [h1, h2, if_true, if_false]; omega
    · simp only [h1, if_false]; split <;> omega

theorem rk_iff {zs : List Int} {a b : Int} (ha : a ∈ zs) : rk zs a < rk zs b ↔ a < b := by
  constructor
  · intro h
    by_cases hb : a < b
    · exact hb
    · have := rk_le (show b ≤ a by omega) zs
      omega
  · intro h
    have h1 := rk_lt h zs
    have h2 := many_pos ha
    omega

/-- All rows of so many numbers below `n`. -/
def rows (n : Nat) : Nat → List (List Nat)
  | 0 => [[]]
  | m + 1 => (rows n m).flatMap fun r => (List.range n).map fun x => x :: r

theorem rows_mem {n : Nat} : ∀ {r : List Nat}, (∀ x ∈ r, x < n) → r ∈ rows n r.length
  | [], _ => by simp [rows]
  | x :: r, h => by
    simp only [List.length_cons, rows, List.mem_flatMap, List.mem_map, List.mem_range]
    exact ⟨r, rows_mem fun y hy => h y (by simp [hy]), x, h x (by simp), rfl⟩

theorem apartN_of : ∀ {l : List Nat}, l.Nodup → apartN l = true
  | [], _ => rfl
  | a :: r, h => by
    obtain ⟨h1, h2⟩ := List.nodup_cons.1 h
    simp only [apartN, Bool.and_eq_true]
    refine ⟨List.all_eq_true.2 fun b hb => ?_, apartN_of h2⟩
    cases hq : Nat.beq a b with
    | false => rfl
    | true => have := Nat.eq_of_beq_eq_true hq; subst this; exact absurd hb h1

noncomputable section

/-- What is known of numbers of which the order is known. -/
def rankFacts (n : Nat) (r : List Nat) : Facts := fun op vs => match op, vs with
  | .binOp .neq _ _ _ _, [.sym i, .sym j] => bif Nat.beq i j then some (.lit (.bool false)) else none
  | .binOp .lss _ _ _ _, [.sym i, .sym j] => bif Nat.blt i n && Nat.blt j n then some (.lit (.bool (Nat.blt (r.getD i 0) (r.getD j 0)))) else none
  | _, _ => none

def symsFrom (i : Nat) : Nat → List AVal
  | 0 => []
  | n + 1 => .sym i :: symsFrom (i + 1) n

def miniS (n : Nat) : AState := ⟨.node .leaf (some (.cells (symsFrom 0 n) true)) .leaf, 1, big, 0⟩

def sortRun (P : Program) (fuel f n : Nat) (r : List Nat) : Bool := match run P (fun _ => none) (rankFacts n r) (drawRun P) fuel (.call f [.slice 0 0 n (.grown 1)]) (miniS n) with
  | .ok (.val (.tup []), s) => Nat.ble s.next 1000
  | _ => false

def sortRuns (P : Program) (fuel f n : Nat) : Bool := (rows n n).all fun r => !apartN r || sortRun P fuel f n r

end

section
variable {P : Program}

theorem rankFacts_ok {q : IntKind} {zs : List Int} {n : Nat} (hn : zs.length = n) : FactsOk P (fun i => (q, zs.getD i 0)) (rankFacts n (zs.map (rk zs))) := by
  intro op vs v hv ρ e w hr
  unfold rankFacts at hv
  split at hv
  · rename_i t x y yt i j
    cases hq : Nat.beq i j with
    | false => rw [hq] at hv; cases hv
    | true =>
      rw [hq, cond_true] at hv
      cases hv
      have := Nat.eq_of_beq_eq_true hq
      subst this
      have hop : (Op.binOp .neq t x y yt).operands.toList.map e = [e x, e y] := by simp [Op.operands]
      rw [hop] at hr
      obtain ⟨u1, r1, e1, hu1, u2, r2, e2, hu2, e3⟩ := hr
      simp only [List.cons.injEq] at e1
      rw [← e1.2] at e2
      simp only [List.cons.injEq] at e2
      have h1 : e x = .int q (zs.getD i 0) := e1.1.trans hu1
      have h2 : e y = .int q (zs.getD i 0) := e2.1.trans hu2
      refine ⟨.bool false, fun o ho => ?_, rfl, rfl⟩
      unfold execOp
      rw [ho]
      simp only []
      rw [h1, h2, Sem.run_bind]
      have : (do eqGuard .neq t x y (.int q (zs.getD i 0)) (.int q (zs.getD i 0)); binOp .neq t (.int q (zs.getD i 0)) (.int q (zs.getD i 0)) : Sem Value).run P w = .ok (.bool false) w := by
        rw [Sem.run_bind]
        have h3 : (eqGuard .neq t x y (.int q (zs.getD i 0)) (.int q (zs.getD i 0))).run P w = .ok () w := by simp [eqGuard]
        rw [h3, Result.andThen_ok, binOp_neq, Sem.run_pure]
        simp
      rw [this]
      rfl
  · rename_i t x y yt i j
    cases hq : (Nat.blt i n && Nat.blt j n) with
    | false => rw [hq] at hv; cases hv
    | true =>
      rw [hq, cond_true] at hv
      cases hv
      simp only [Bool.and_eq_true] at hq
      have hi : i < zs.length := by rw [hn]; exact Nat.le_of_ble_eq_true hq.1
      have hj : j < zs.length := by rw [hn]; exact Nat.le_of_ble_eq_true hq.2
      have hop : (Op.binOp .lss t x y yt).operands.toList.map e = [e x, e y] := by simp [Op.operands]
      rw [hop] at hr
      obtain ⟨u1, r1, e1, hu1, u2, r2, e2, hu2, e3⟩ := hr
      simp only [List.cons.injEq] at e1
      rw [← e1.2] at e2
      simp only [List.cons.injEq] at e2
      have h1 : e x = .int q zs[i] := by rw [e1.1, show u1 = _ from hu1]; simp [hi]
      have h2 : e y = .int q zs[j] := by rw [e2.1, show u2 = _ from hu2]; simp [hj]
      have hb : Nat.blt ((zs.map (rk zs)).getD i 0) ((zs.map (rk zs)).getD j 0) = decide (zs[i] < zs[j]) := by
        have g1 : (zs.map (rk zs)).getD i 0 = rk zs zs[i] := by simp [hi]
        have g2 : (zs.map (rk zs)).getD j 0 = rk zs zs[j] := by simp [hj]
        rw [g1, g2]
        have := rk_iff (a := zs[i]) (b := zs[j]) (List.getElem_mem hi)
        by_cases h : zs[i] < zs[j]
        · rw [decide_eq_true h]
          exact Nat.ble_eq_true_of_le (this.2 h)
        · rw [decide_eq_false h]
          cases hq2 : Nat.blt (rk zs zs[i]) (rk zs zs[j]) with
          | false => rfl
          | true => exact absurd (this.1 (Nat.le_of_ble_eq_true hq2)) h
      rw [hb]
      refine ⟨.bool (decide (zs[i] < zs[j])), fun o ho => ?_, rfl, rfl⟩
      unfold execOp
      rw [ho]
      simp only []
      rw [h1, h2, Sem.run_bind]
      have : (do eqGuard .lss t x y (.int q zs[i]) (.int q zs[j]); binOp .lss t (.int q zs[i]) (.int q zs[j]) : Sem Value).run P w = .ok (.bool (decide (zs[i] < zs[j]))) w := by
        rw [Sem.run_bind]
        have h3 : (eqGuard .lss t x y (.int q zs[i]) (.int q zs[j])).run P w = .ok () w := by simp [eqGuard]
        rw [h3, Result.andThen_ok, binOp_lss, Sem.run_pure]
      rw [this]
      rfl
  · cases hv

theorem symsFrom_get : ∀ (n i j : Nat), (symsFrom i n)[j]? = if j < n then some (.sym (i + j)) else none
  | 0, i, j => by simp [symsFrom]
  | n + 1, i, 0 => by simp [symsFrom]
  | n + 1, i, j + 1 => by
    simp only [symsFrom, List.getElem?_cons_succ]
    rw [symsFrom_get n (i + 1) j]
    by_cases h : j < n
    · rw [if_pos h, if_pos (by omega), show i + 1 + j = i + (j + 1) by omega]
    · rw [if_neg h, if_neg (by omega)]

theorem symsFrom_length : ∀ (n i : Nat), (symsFrom i n).length = n
  | 0, i => rfl
  | n + 1, i => by simp [symsFrom, symsFrom_length n (i + 1)]

theorem sortRuns_ok (hm : P.follows .mixedOrders = true) {fuel f n : Nat} (hf : plainFn P f = true) (h : sortRuns P fuel f n = true) {q : IntKind} {zs : List Int} (hn : zs.length = n) (hnd : zs.Nodup) {w : World} {g cap : Nat} (hg : g < w.heap.size) (hcap : n ≤ cap)
    (hc : ∀ j a, zs[j]? = some a → w.cell? ⟨g, j, none⟩ = some (.int q a)) (hall : ∀ i, i < cap → (w.cell? ⟨g, i, none⟩).isSome = true ∧ w.frozen? ⟨g, i, none⟩ = false) :
    Calls P f #[.slice (some ⟨g, 0, none⟩) n cap] w fun e w' => e = .returned (.tuple #[]) ∧ w.grownBy w' (some g) := by
  let σ : Syms := fun i => (q, zs.getD i 0)
  let ρ : Ren := fun b => if b = 0 then some ⟨g, 0, cap⟩ else none
  have hleaf : ∀ b, (Tr.leaf : Tr AObj).get b = none := fun b => by cases b <;> rfl
  have hget : ∀ b, (miniS n).heap.get b = if b = 0 then some (.cells (symsFrom 0 n) true) else none := fun b => by
    cases b with
    | zero => rfl
    | succ b =>
      show (Tr.node .leaf _ .leaf : Tr AObj).get (b + 1) = _
      rw [get_node_succ, if_neg (Nat.succ_ne_zero b)]
      split <;> exact hleaf _
  have hρ0 : ∀ b L, ρ b = some L → b = 0 ∧ L = ⟨g, 0, cap⟩ := fun b L e => by
    by_cases hb : b = 0
    · simp only [ρ, hb, if_true, Option.some.injEq] at e; exact ⟨hb, e.symm⟩
    · simp [ρ, hb] at e
  have hw : WRel σ 0 w ρ (miniS n) w := by
    refine ⟨Below.refl _ _, Nat.zero_le _, ⟨Nat.zero_le _, by show 1 ≤ lim + 1; omega⟩, fun b b' L L' _ _ _ _ e e' _ => by rw [(hρ0 _ _ e).1, (hρ0 _ _ e').1], fun b hb => ?_, fun b L e => ?_, fun b o hb L e => ?_⟩
    · rw [hget] at hb
      show b < 1
      by_cases h0 : b = 0
      · omega
      · rw [if_neg h0] at hb; exact absurd rfl hb
    · obtain ⟨rfl, rfl⟩ := hρ0 _ _ e
      exact ⟨hg, fun _ => Nat.zero_le _, fun h => absurd h (Nat.not_lt_zero _)⟩
    · obtain ⟨rfl, rfl⟩ := hρ0 _ _ e
      rw [hget, if_pos rfl] at hb
      cases hb
      refine ⟨fun j v hj => ?_, fun _ j hj => ?_, fun _ => ⟨rfl, ?_, hall⟩⟩
      · rw [symsFrom_get] at hj
        by_cases hjn : j < n
        · rw [if_pos hjn] at hj
          cases hj
          have hjz : j < zs.length := by omega
          refine ⟨.int q zs[j], ?_, ?_⟩
          · show w.cell? ⟨g, 0 + j, none⟩ = _
            rw [Nat.zero_add]
            exact hc j _ (by simp [hjz])
          · show _ = Value.int q (zs.getD (0 + j) 0)
            rw [Nat.zero_add]
            simp [hjz]
        · rw [if_neg hjn] at hj; cases hj
      · show w.frozen? ⟨g, 0 + j, none⟩ = false
        rw [Nat.zero_add]
        rw [symsFrom_length] at hj
        exact (hall j (by omega)).2
      · rw [symsFrom_length]; exact hcap
  have hr : sortRun P fuel f n (zs.map (rk zs)) = true := by
    have hmem : zs.map (rk zs) ∈ rows n n := by
      have h1 : ∀ x ∈ zs.map (rk zs), x < n := fun x hx => by
        obtain ⟨a, ha, rfl⟩ := List.mem_map.1 hx
        have h2 := rk_bound a zs
        have h3 := many_pos ha
        omega
      have h2 := rows_mem h1
      rwa [List.length_map, hn] at h2
    have h1 := List.all_eq_true.1 h _ hmem
    have h2 : apartN (zs.map (rk zs)) = true := by
      refine apartN_of (List.pairwise_map.2 (hnd.imp_of_mem fun {a b} ha hb hne e => hne ?_))
      have k1 := rk_iff (b := b) ha
      have k2 := rk_iff (b := a) hb
      omega
    rw [h2] at h1
    simpa using h1
  have hr2 : ∃ s', run P (fun _ => none) (rankFacts n (zs.map (rk zs))) (drawRun P) fuel (.call f [.slice 0 0 n (.grown 1)]) (miniS n) = .ok (.val (.tup []), s') ∧ s'.next ≤ 1000 := by
    unfold sortRun at hr
    split at hr
    · rename_i s' hs; exact ⟨s', hs, Nat.le_of_ble_eq_true hr⟩
    · cases hr
  obtain ⟨s', hrun, hM⟩ := hr2
  obtain ⟨v, hv0, hX⟩ := (run_ok (σ := σ) (N0 := 0) (w0 := w) (facts := rankFacts n (zs.map (rk zs))) (prims := fun _ => none) hm (rankFacts_ok hn) (fun f p h => by cases h) fuel).call _ _ _ _ _ hrun hf ρ w #[.slice (some ⟨g, 0, none⟩) n cap] hw
    (fun i hi _ => by
      show (if i = 0 then _ else _) = _
      rw [if_neg (by have : 1 ≤ i := hi; omega)]) ⟨_, _, rfl, ⟨⟨g, 0, cap⟩, cap, rfl, rfl, hcap, rfl, by show 0 + cap * 1 = cap; omega⟩, rfl⟩
  cases hv0
  refine hX.mono fun e w' ⟨u, ρ', he, hv, hP⟩ => ?_
  · obtain ⟨ws, rfl, hws⟩ := hv
    have : ws = #[] := by apply Array.toList_inj.1; exact hws
    subst this
    have hbs := hP.wrel.base
    refine ⟨he, hbs.os, hbs.tape, hbs.output, hP.size, fun k hk hne => hP.frame k hk fun b L hb _ e hL => ?_⟩
    obtain ⟨rfl, rfl⟩ := hρ0 _ _ e
    exact hne (by rw [← hL])

end
end Go.Am


/-
  Maps from integers to integers, for the library's proved summaries; a new row of which no more is known than how long it is.
-/
namespace Go.Am
open Go Go.RowKit
open Go.WideElems (Fit rd rg pl rd_key rd_val rg_of)
set_option linter.unusedVariables false
set_option linter.unusedSimpArgs false

/-- Each value is a number of the kind. -/
def valsI (q : IntKind) (es : List AEntry) : Bool := es.all fun e => match e.val with
  | .lit (.int k a) => decide (k = q) && (Lit.int q a).wf
  | _ => false

section
variable {σ : Syms} {N0 : Nat} {w0 : World} {P : Program} {ρ : Ren} {s s' : AState} {w w' : World}

def fitQ (q : IntKind) (es : List AEntry) (c : Nat) : Option (List Int) := match keysI q es with
  | some l => bif Nat.ble es.length 100000 && (es.all (fun e => Nat.blt e.born c) && (apartN (es.map (·.born)) && apartI l)) then some l else none
  | none => none

theorem fitQ_ok {H : Type} {q : IntKind} {es : List AEntry} {c : Nat} {l : List Int} {k : TypeId} (R : Value → Option (DataW H × List MemPlace)) (hk : P.underlying k = some (.int q)) (h : fitQ q es c = some l) {b : Nat} {ms : Array MapEntry} (hb : w.heap[b]? = some (.map ms c)) (hr : ERels σ ρ es ms.toList)
    (hR : ∀ x ∈ ms.toList, ∃ z, R x.val = some z) : ∃ D0 : DataW H, w.ownsMap P k R b es.length D0 ∧ l.Perm (intKeys D0) ∧ Maps.size D0 = es.length ∧ es.length ≤ 100000 := by
  unfold fitQ at h
  split at h
  · rename_i l' hl
    cases hq : (Nat.ble es.length 100000 && (es.all (fun e => Nat.blt e.born c) && (apartN (es.map (·.born)) && apartI l'))) with
    | false => rw [hq] at h; cases h
    | true =>
      rw [hq, cond_true] at h
      cases h
      simp only [Bool.and_eq_true] at hq
      obtain ⟨q1, q2, q3, q4⟩ := hq
      have q1 := Nat.le_of_ble_eq_true q1
      obtain ⟨i1, i2, i3⟩ := keysI_ok hl hr
      have hlen := hr.length
      have hrd : ∀ x ∈ ms.toList, ∃ a z, x.key = .int q a ∧ rd (H := H) P k R x = some (.int q a, z) := fun x hx => by
        have : x.key ∈ ms.toList.map (·.key) := List.mem_map_of_mem hx
        rw [i1] at this
        obtain ⟨a, ha, hxa⟩ := List.mem_map.1 this
        obtain ⟨z, hz⟩ := hR x hx
        refine ⟨a, z.1, hxa.symm, ?_⟩
        have hkey : keyOf P k x.key = some (.int q a) := by
          rw [← hxa]
          simp [keyOf, hk, mapKey, i2 a ha]
        simp [rd, hkey, hz]
      have F : Fit (H := H) P k R ms c := by
        refine ⟨by have : maxLen = 9223372036854775807 := rfl; simp only [Array.length_toList] at hlen; omega, ⟨fun x hx => ?_, ?_, ?_⟩, fun x hx => ?_⟩
        · have : x.born ∈ ms.toList.map (·.born) := List.mem_map_of_mem hx
          rw [i3] at this
          obtain ⟨e, he, hxe⟩ := List.mem_map.1 this
          rw [← hxe]
          exact Nat.le_of_ble_eq_true (List.all_eq_true.1 q2 e he)
        · rw [i3]; exact apartN_ok q3
        · rw [i1]
          exact List.pairwise_map.2 ((apartI_ok q4).imp fun hne e => hne (by simpa using e))
        · obtain ⟨a, z, _, h2⟩ := hrd x hx
          exact ⟨_, h2⟩
      refine ⟨.map ((ms.toList.map (rg P k R)).foldr DataW.insert []), ⟨ms, c, hb, F, by simp only [Array.length_toList] at hlen; omega, rfl⟩, ?_, ?_, q1⟩
      · have hp := (Go.WideShapes.sorted_perm (ms.toList.map (rg (H := H) P k R))).map (fun p => intOf p.1)
        refine List.Perm.trans ?_ hp.symm
        have : (ms.toList.map (rg (H := H) P k R)).map (fun p => intOf p.1) = l := by
          rw [List.map_map]
          have h1 : ∀ x ∈ ms.toList, (fun p => intOf p.1) (rg (H := H) P k R x) = (match x.key with | .int _ a => a | _ => 0) := fun x hx => by
            obtain ⟨a, z, h1, h2⟩ := hrd x hx
            rw [rg_of h2, h1]
            rfl
          have h2 : ms.toList.map ((fun p => intOf p.1) ∘ rg (H := H) P k R) = ms.toList.map ((fun v => (match v with | .int _ a => a | _ => 0 : Int)) ∘ (fun x : MapEntry => x.key)) := List.map_congr_left fun x hx => h1 x hx
          rw [h2, ← List.map_map, i1, List.map_map]
          simp [Function.comp_def]
        rw [this]
      · show (((ms.toList.map (rg (H := H) P k R)).foldr DataW.insert []).length) = es.length
        rw [Go.length_sorted]
        simp only [List.length_map]
        exact hlen
  · cases h

theorem valsI_ok {H : Type} {q : IntKind} {es : List AEntry} {ms : List MapEntry} {e : TypeId} (he : P.underlying e = some (.int q)) (h : valsI q es = true) (hr : ERels σ ρ es ms) : ∀ x ∈ ms, ∃ z, plainElem (H := H) P e x.val = some z := by
  intro x hx
  obtain ⟨a, ha, _, _, hv⟩ := hr.mem x hx
  have := List.all_eq_true.1 h a ha
  split at this
  · rename_i k n hval
    simp only [Bool.and_eq_true] at this
    have hkq := of_decide_eq_true this.1
    rw [hval] at hv
    obtain ⟨hv, _⟩ := hv
    rw [hv, hkq]
    exact ⟨_, plainElem_int he this.2⟩
  · cases this

/-- A new row of which no more is known. -/
theorem Post.newDim {g cap n k : Nat} (h : WRel σ N0 w0 ρ s w) (hb : Below w.heap.size w w') (ha : s.alloc (.cells [] false) = .ok s') (hf : Fresh ρ s.next s'.next)
    (hg : w.heap.size ≤ g) (hlt : g < w'.heap.size) (hn : n ≤ cap) :
    ∃ ρ', VRel σ ρ' (.slice s.next 0 n (.grown k)) (.slice (some ⟨g, 0, none⟩) n cap) ∧ Post σ N0 w0 ρ s w ρ' s' w' := by
  obtain ⟨ρ', h1, h2⟩ := Post.newAt (L := ⟨g, 0, cap * k⟩) h hb ha hf hg hlt (fun ρ' _ => ⟨fun j v hj => by simp at hj, fun _ j hj => absurd hj (Nat.not_lt_zero _), fun h => by cases h⟩)
  exact ⟨ρ', ⟨⟨g, 0, cap * k⟩, cap, h1, rfl, hn, rfl, by show 0 + cap * k = cap * k; omega⟩, h2⟩

end
end Go.Am


/-
  graft.group of sixteen pages of which none is there: nothing, and no block.
-/
namespace Go.Proofs.Ytdhnfhhmacjajaa
open Go Go.RowKit Go.Maps Go.Am
set_option linter.unusedVariables false
set_option linter.unusedSimpArgs false

theorem law3G : Keyed Try.prog 3 := int_keyed Try.underlying3

/-- A leaf's two numbers. -/
def leafR {H : Type} (v : Value) : Option (DataW H × List MemPlace) := match v with
  | .agg xs => match xs.toList with
    | [.int .i64 a, .int .i64 b] => some (.agg [.lit (.int .i64 a), .lit (.int .i64 b)], [])
    | _ => none
  | _ => none

theorem leafR_zero {H : Type} {v : Value} {ps : List MemPlace} (h : leafR (H := H) v = some (.agg [.lit (.int .i64 0), .lit (.int .i64 0)], ps)) : v = .agg #[.int .i64 0, .int .i64 0] := by
  unfold leafR at h
  split at h
  · rename_i xs
    split at h
    · rename_i a b hx
      simp only [Option.some.injEq, Prod.mk.injEq, DataW.agg.injEq, List.cons.injEq, DataW.lit.injEq, Lit.int.injEq, true_and, and_true] at h
      obtain ⟨⟨rfl, rfl⟩, _⟩ := h
      have : xs = #[.int .i64 0, .int .i64 0] := by apply Array.toList_inj.1; rw [hx]
      rw [this]
    · cases h
  · cases h

theorem zeroLeaf (w : World) : (zeroValue 39).run Try.prog w = .ok (.agg #[.int .i64 0, .int .i64 0]) w := by kernel_rfl

set_option maxRecDepth 100000 in
set_option maxHeartbeats 2000000 in
theorem group_none {H : Type} (b n : Nat) (g : Int) (D0 : DataW H) (w : World) (hown : w.ownsMap Try.prog 3 leafR b n D0) (hg0 : 0 ≤ g) (hg1 : g < 100000) (hno : ∀ k : Int, g * 16 ≤ k → k < g * 16 + 16 → Maps.has D0 (.int .i64 k) = false) :
    Calls Try.prog 50 #[.map (some b), .int .i64 g] w fun e w' => e = .returned (.tuple #[.bool false, .bool false]) ∧ Below w.heap.size w w' := by
  have hbl := hown.lt
  have hat : ∀ k : Int, g * 16 ≤ k → k < g * 16 + 16 → ∀ z, D0.atKey (.int .i64 k) z = z := fun k h1 h2 z => atKey_of_not_has (hno k h1 h2) z
  go_enter Try.func50, Try.ntmps50
  go_wp2_with (first
    | (at_lookup; refine wpList_lookup_own_ok _ rfl _ _ 66 rfl 3 39 law3G Try.underlying66 leafR (zeroLeaf _) (.agg [.lit (.int .i64 0), .lit (.int .i64 0)]) [] rfl b n D0 rfl hown _ _ rfl (keyOf_int_mk Try.underlying3 (WalkArith.wf_i64 (by omega))) ?_; intro v ps hv; rw [hat _ (by omega) (by omega)] at hv; rw [hno _ (by omega) (by omega)]; obtain rfl := leafR_zero hv; clear hv)
    | go_in)
  go_loopw [4, 5, 17] (fun v4 v5 v17 wr => ∃ i : Nat, v17 = .int .i64 i ∧ i ≤ 16 ∧ v4 = .bool false ∧ v5 = .bool false ∧ wr.ownsMap Try.prog 3 leafR b n D0 ∧ Below w.heap.size w wr) (fun _ _ v17 wr => 16 - (match v17 with | .int _ k => k.toNat | _ => 0))
  case atStart => exact ⟨0, rfl, by omega, rfl, rfl, hown.alloc _, (Below.refl _ _).alloc (Nat.le_refl _) _⟩
  case round =>
    obtain ⟨i, rfl, hi, rfl, rfl, hownr, hnx⟩ := hrel
    go_wp2_with (first
      | (at_lookup; refine wpList_lookup_own_ok _ rfl _ _ 66 rfl 3 39 law3G Try.underlying66 leafR (zeroLeaf _) (.agg [.lit (.int .i64 0), .lit (.int .i64 0)]) [] rfl b n D0 rfl hownr _ _ rfl (keyOf_int_mk Try.underlying3 (WalkArith.wf_i64 (by omega))) ?_; intro v ps hv; rw [hat _ (by omega) (by omega)] at hv; rw [hno _ (by omega) (by omega)]; obtain rfl := leafR_zero hv; clear hv)
      | go_in)
    · refine ⟨⟨i + 1, by simp, by omega, rfl, rfl, hownr.alloc _, hnx.alloc hnx.size _⟩, ?_⟩
      show 16 - ((i : Int) + 1).toNat < 16 - (i : Int).toNat
      omega
    · go_ret2
      exact ⟨rfl, hnx⟩

/-! ### For the machine -/
def valsL (es : List AEntry) : Bool := es.all fun e => match e.val with
  | .agg [.lit (.int .i64 _), .lit (.int .i64 _)] => true
  | _ => false

theorem valsL_ok {H : Type} {σ : Syms} {ρ : Am.Ren} {es : List AEntry} {ms : List MapEntry} (h : valsL es = true) (hr : ERels σ ρ es ms) : ∀ x ∈ ms, ∃ z, leafR (H := H) x.val = some z := by
  intro x hx
  obtain ⟨a, ha, _, _, hv⟩ := hr.mem x hx
  have := List.all_eq_true.1 h a ha
  split at this
  · rename_i c d hval
    rw [hval] at hv
    obtain ⟨ws, h1, u1, r1, e1, ⟨rfl, _⟩, u2, r2, rfl, ⟨rfl, _⟩, rfl⟩ := hv
    rw [h1]
    refine ⟨(.agg [.lit (.int .i64 c), .lit (.int .i64 d)], []), ?_⟩
    unfold leafR
    simp only [e1]
  · cases this

/-- None of the sixteen is there. -/
def noneOf (g : Int) (l : List Int) : Bool := l.all fun k => decide (k < g * 16) || decide (g * 16 + 16 ≤ k)

noncomputable def groupA : List AVal → AState → R (AVal × AState)
  | [.map b, .lit (.int .i64 g)], s => do
    match ← s.get b with
    | .map es k => match fitQ .i64 es k with
      | some l => bif valsL es && (noneOf g l && (decide (0 ≤ g) && decide (g < 100000))) then .ok (.tup [.lit (.bool false), .lit (.bool false)], s) else .fail "group: some"
      | none => .fail "group: keys"
    | _ => .fail "group"
  | _, _ => .fail "group"

theorem groupA_ok {σ : Syms} {N0 : Nat} {w0 : World} : PrimOk Try.prog σ N0 w0 50 groupA := by
  have inv : ∀ args s v s', groupA args s = .ok (v, s') → ∃ b g es k l, args = [.map b, .lit (.int .i64 g)] ∧ s.heap.get b = some (.map es k) ∧ fitQ .i64 es k = some l ∧ valsL es = true ∧ noneOf g l = true ∧ 0 ≤ g ∧ g < 100000 ∧ v = .tup [.lit (.bool false), .lit (.bool false)] ∧ s' = s := by
    intro args s v s' h
    unfold groupA at h
    split at h
    · rename_i s1 b g
      replace h := R.bind_ok' h
      obtain ⟨ob, h1, h⟩ := h
      split at h
      · rename_i es k
        split at h
        · rename_i l hl
          cases hv : (valsL es && (noneOf g l && (decide (0 ≤ g) && decide (g < 100000)))) with
          | false => rw [hv] at h; cases h
          | true =>
            rw [hv, cond_true] at h
            cases h
            simp only [Bool.and_eq_true, decide_eq_true_eq] at hv
            exact ⟨b, g, es, k, l, rfl, get_ok h1, hl, hv.1, hv.2.1, hv.2.2.1, hv.2.2.2, rfl, rfl⟩
        · cases h
      · cases h
    · cases h
  refine ⟨fun args s v s' h => ?_, fun args s v s' h ρ w us hw hf hv => ?_⟩
  · obtain ⟨b, g, es, k, l, _, _, _, _, _, _, _, _, rfl⟩ := inv _ _ _ _ h
    exact Abs.refl _
  · obtain ⟨b, g, es, k, l, rfl, g1, g2, g3, g4, g5, g6, rfl, rfl⟩ := inv _ _ _ _ h
    obtain ⟨u1, r1, e1, ⟨L, hL, rfl⟩, u2, r2, e2, ⟨rfl, _⟩, rfl⟩ := hv
    have hus : us = #[.map (some L.blk), .int .i64 g] := by apply Array.toList_inj.1; rw [e1, e2]
    subst hus
    obtain ⟨ms, hm1, hm2⟩ := hw.heap _ _ g1 L hL
    obtain ⟨D0, hown, hperm, hsz, hle⟩ := fitQ_ok (H := Unit) (P := Try.prog) (k := 3) leafR Try.underlying3 g2 hm1 hm2 (valsL_ok g3 hm2)
    have hno : ∀ k : Int, g * 16 ≤ k → k < g * 16 + 16 → Maps.has D0 (.int .i64 k) = false := fun k h1 h2 => by
      cases hq : Maps.has D0 (.int .i64 k) with
      | false => rfl
      | true =>
        exfalso
        obtain ⟨es', rfl, _⟩ := hown.entries law3G
        rw [Maps.has_eq, List.any_eq_true] at hq
        obtain ⟨p, hp, hs⟩ := hq
        have hk : Go.intOf p.1 = k := by
          cases hp1 : p.1 <;> rw [hp1] at hs <;> simp [Lit.sameKey] at hs
          simp [Go.intOf, hs]
        have hmem : k ∈ intKeys (DataW.map es') := by
          show k ∈ es'.map fun p => Go.intOf p.1
          exact List.mem_map.2 ⟨p, hp, hk⟩
        have := List.all_eq_true.1 g4 k (hperm.mem_iff.2 hmem)
        simp only [Bool.or_eq_true, decide_eq_true_eq] at this
        omega
    refine (group_none L.blk es.length g D0 w hown g5 g6 hno).mono fun e w' ⟨he, hb⟩ => ⟨_, ρ, he, ?_, Post.wider hw hb.size hb.block ⟨hb.os, hb.tape, hb.output⟩⟩
    exact ⟨_, rfl, _, _, rfl, ⟨rfl, rfl⟩, _, _, rfl, ⟨rfl, rfl⟩, rfl⟩

/-- One contract, and another one where the first one has no answer. -/
noncomputable def orA (p q : List AVal → AState → R (AVal × AState)) : List AVal → AState → R (AVal × AState) := fun args s => match p args s with
  | .ok r => .ok r
  | .fail _ => q args s

theorem orA_ok {P : Program} {σ : Syms} {N0 : Nat} {w0 : World} {f : FuncId} {p q : List AVal → AState → R (AVal × AState)} (hp : PrimOk P σ N0 w0 f p) (hq : PrimOk P σ N0 w0 f q) : PrimOk P σ N0 w0 f (orA p q) := by
  refine ⟨fun args s v s' h => ?_, fun args s v s' h => ?_⟩
  · unfold orA at h
    split at h
    · rename_i r hr
      cases h
      exact hp.abs _ _ _ _ hr
    · exact hq.abs _ _ _ _ h
  · unfold orA at h
    split at h
    · rename_i r hr
      cases h
      exact hp.sound _ _ _ _ hr
    · exact hq.sound _ _ _ _ h

/-- What the machine itself runs to, as a contract. -/
noncomputable def runA (n f : Nat) (args : List AVal) (s : AState) : R (AVal × AState) := match run Try.prog noPrims noFacts (drawRun Try.prog) n (.call f args) s with
  | .ok (.val v, s1) => .ok (v, s1)
  | _ => .fail "run"

theorem runA_ok {σ : Syms} {N0 : Nat} {w0 : World} {n f : Nat} (hf : plainFn Try.prog f = true) : PrimOk Try.prog σ N0 w0 f (runA n f) := by
  have inv : ∀ args s v s', runA n f args s = .ok (v, s') → run Try.prog noPrims noFacts (drawRun Try.prog) n (.call f args) s = .ok (.val v, s') := by
    intro args s v s' h
    unfold runA at h
    split at h
    · rename_i v1 s1 h1
      cases h
      exact h1
    · cases h
  have hr := run_ok (σ := σ) (N0 := N0) (w0 := w0) (P := Try.prog) (by kernel_rfl) noFacts_ok noPrims_ok n
  refine ⟨fun args s v s' h => hr.abs _ _ _ _ (inv _ _ _ _ h), fun args s v s' h ρ w us hw hfr hv => ?_⟩
  obtain ⟨v1, e1, hc⟩ := hr.call _ _ _ _ _ (inv _ _ _ _ h) hf ρ w us hw hfr hv
  cases e1
  exact hc

noncomputable def groupPrims : Prims := fun f => bif Nat.beq f 50 then some (orA groupA (runA 100000 50)) else none

theorem groupPrims_ok {σ : Syms} {N0 : Nat} {w0 : World} : ∀ f p, groupPrims f = some p → PrimOk Try.prog σ N0 w0 f p := by
  intro f p h
  unfold groupPrims at h
  cases hq : Nat.beq f 50 with
  | false => rw [hq] at h; cases h
  | true =>
    rw [hq, cond_true] at h
    have := Nat.eq_of_beq_eq_true hq
    subst this
    cases h
    exact orA_ok groupA_ok (runA_ok (by kernel_rfl))

end Go.Proofs.Ytdhnfhhmacjajaa
