/-
  A long run in parts: the first part of a row of code by one run, what follows from where that one ended.
-/
import Derived.Test.YtibengibhihgpaaAm31
namespace Go.Am
open Go Go.RowKit
set_option linter.unusedVariables false

def seqs : List Code → Code → Code
  | [], r => r
  | c :: l, r => .seq c (seqs l r)

def parts : Code → List Code
  | .seq a b => a :: parts b
  | c => [c]

section
variable {σ : Syms} {N0 : Nat} {w0 : World} {P : Program} {M : Nat} {prims : Prims} {facts : Facts}

theorem prefix_to (hm : P.follows .mixedOrders = true) (hfa : FactsOk P σ facts) (hp : ∀ f p, prims f = some p → PrimOk P σ N0 w0 f p) {rest : Code} {a1 : AAct} {s1 : AState} {K : CK} (hM : s1.next ≤ M) (hK : CodeTo M P σ N0 w0 rest a1 s1 K) :
    ∀ (l : List Code) (n : Nat) (a : AAct) (s : AState), run P prims facts (drawRun P) n (.code (seqs l .skip) a) s = .ok (.out .normal a1, s1) → CodeTo M P σ N0 w0 (seqs l rest) a s K
  | [], 0, a, s, h => by cases h
  | [], n + 1, a, s, h => by
    cases h
    exact hK
  | c :: l, 0, a, s, h => by cases h
  | c :: l, n + 1, a, s, h => by
    have hr := run_ok (facts := facts) (σ := σ) (N0 := N0) (w0 := w0) hm hfa hp n
    replace h : stepT P prims facts (drawRun P) (run P prims facts (drawRun P) n) (.code (.seq c (seqs l .skip)) a) s = .ok (.out .normal a1, s1) := h
    replace h := R.bind_ok' h
    obtain ⟨⟨e, a2, s2⟩, h1, h⟩ := h
    have h1 := doCode_ok h1
    cases e with
    | normal =>
      have hab := hr.abs _ _ _ _ h
      exact CodeTo.seq (CodeTo.of_run hr h1 (Nat.le_trans hab.next hM) (prefix_to hm hfa hp hM hK l n a2 s2 h))
    | exit id => cases h
    | goto l => cases h
    | ret => cases h

theorem WRel.start {s : AState} {w : World} (hs : s.heap = .leaf ∧ s.next = 0 ∧ s.ro = 0) : WRel σ w.heap.size w (fun _ => none) s w := by
  obtain ⟨h1, h2, h3⟩ := hs
  have hleaf : ∀ b, (Tr.leaf : Tr AObj).get b = none := fun b => by cases b <;> rfl
  exact ⟨Below.refl _ _, Nat.le_refl _, by rw [h2, h3]; exact ⟨Nat.le_refl _, by simp⟩, fun b b' L L' _ _ hl => absurd (by rw [h1]; exact hleaf b) hl, fun b hb => absurd (by rw [h1]; exact hleaf b) hb, fun b L e => (by cases e), fun b o _ L e => (by cases e)⟩

/-- What a call without arguments comes to, from nothing. -/
theorem CallTo.calls {f : FuncId} {s : AState} {w : World} {K : VK} (hs : s.heap = .leaf ∧ s.next = 0 ∧ s.ro = 0) (h : CallTo M P σ w.heap.size w f [] s K) :
    Calls P f #[] w fun e w' => ∃ v u ρ', (∃ s', K v s') ∧ e = .returned u ∧ VRel σ ρ' v u ∧ Below w.heap.size w w' :=
  (h (fun _ => none) w #[] (WRel.start hs) ⟨by rw [hs.2.1]; exact Nat.zero_le _, fun _ _ _ => rfl⟩ rfl).mono fun e w' ⟨v, s', hk, _, u, ρ', he, hv, hP⟩ => ⟨v, u, ρ', ⟨s', hk⟩, he, hv, hP.wrel.base⟩

/-- A call that is true, whatever memory says, as a contract. -/
def trueA : List AVal → AState → R (AVal × AState)
  | [], s => .ok (.lit (.bool true), s)
  | _, _ => .fail "arguments"

theorem trueA_ok {f : FuncId} (h : ∀ w, Calls P f #[] w fun e w' => e = .returned (.bool true) ∧ Below w.heap.size w w') : PrimOk P σ N0 w0 f trueA := by
  have inv : ∀ args s v s', trueA args s = .ok (v, s') → args = [] ∧ v = .lit (.bool true) ∧ s' = s := by
    intro args s v s' h
    unfold trueA at h
    split at h
    · cases h; exact ⟨rfl, rfl, rfl⟩
    · cases h
  refine ⟨fun args s v s' hq => ?_, fun args s v s' hq ρ w us hw hf hv => ?_⟩
  · obtain ⟨_, _, rfl⟩ := inv _ _ _ _ hq
    exact Abs.refl _
  · obtain ⟨rfl, rfl, rfl⟩ := inv _ _ _ _ hq
    have : us = #[] := by apply Array.toList_inj.1; exact hv
    subst this
    exact (h w).mono fun e w' ⟨he, hb⟩ => ⟨_, ρ, he, ⟨rfl, rfl⟩, Post.wider hw hb.size hb.block ⟨hb.os, hb.tape, hb.output⟩⟩

end
end Go.Am
