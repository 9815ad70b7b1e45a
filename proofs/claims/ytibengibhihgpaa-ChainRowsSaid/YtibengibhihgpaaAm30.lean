/-
  What a call that sorts a few unknown numbers in place may do: it comes back, and turns no other block.
-/
import Derived.Test.YtibengibhihgpaaAm29
namespace Go.Am
open Go Go.RowKit
set_option linter.unusedVariables false

noncomputable section

/-- A number is itself. -/
def selfFacts : Facts := fun op vs => match op, vs with
  | .binOp .neq _ _ _ _, [.sym i, .sym j] => bif Nat.beq i j then some (.lit (.bool false)) else none
  | _, _ => none

def symsFrom (i : Nat) : Nat → List AVal
  | 0 => []
  | n + 1 => .sym i :: symsFrom (i + 1) n

def miniS (n : Nat) : AState := ⟨.node .leaf (some (.cells (symsFrom 0 n) true)) .leaf, 1, big, 0⟩

def unitK : Done → AState → R Unit := fun d _ => match d with
  | .val (.tup []) => .ok ()
  | _ => .fail "a value"

def sortRuns (P : Program) (fuel f n : Nat) : Bool := match runX P true 1000 (fun _ => none) (fun _ _ => true) (run P (fun _ => none) selfFacts (drawRun P) fuel) fuel (.call f [.slice 0 0 n (.grown 1)]) (miniS n) unitK with
  | .ok _ => true
  | .fail _ => false

end

section
variable {P : Program}

theorem selfFacts_ok {σ : Syms} : FactsOk P σ selfFacts := by
  intro op vs v hv ρ e w hr
  unfold selfFacts at hv
  split at hv
  · rename_i t x y yt i j
    cases hq : Nat.beq i j with
    | false => rw [hq] at hv; cases hv
    | true =>
      rw [hq, cond_true] at hv
      cases hv
      have := Nat.eq_of_beq_eq_true hq
      subst this
      have hop : (Op.binOp .neq t x y yt).operands.toList.map e = [e x, e y] := by simp [Op.operands]
      rw [hop] at hr
      obtain ⟨u1, r1, e1, hu1, u2, r2, e2, hu2, e3⟩ := hr
      simp only [List.cons.injEq] at e1
      rw [← e1.2] at e2
      simp only [List.cons.injEq] at e2
      have h1 : e x = .int (σ i).1 (σ i).2 := e1.1.trans hu1
      have h2 : e y = .int (σ i).1 (σ i).2 := e2.1.trans hu2
      refine ⟨.bool false, fun o ho => ?_, rfl, rfl⟩
      unfold execOp
      rw [ho]
      simp only []
      rw [h1, h2, Sem.run_bind]
      have : (do eqGuard .neq t x y (.int (σ i).1 (σ i).2) (.int (σ i).1 (σ i).2); binOp .neq t (.int (σ i).1 (σ i).2) (.int (σ i).1 (σ i).2) : Sem Value).run P w = .ok (.bool false) w := by
        rw [Sem.run_bind]
        have h3 : (eqGuard .neq t x y (.int (σ i).1 (σ i).2) (.int (σ i).1 (σ i).2)).run P w = .ok () w := by simp [eqGuard]
        rw [h3, Result.andThen_ok, binOp_neq, Sem.run_pure]
        simp
      rw [this]
      rfl
  · cases hv

theorem symsFrom_get : ∀ (n i j : Nat), (symsFrom i n)[j]? = if j < n then some (.sym (i + j)) else none
  | 0, i, j => by simp [symsFrom]
  | n + 1, i, 0 => by simp [symsFrom]
  | n + 1, i, j + 1 => by
    simp only [symsFrom, List.getElem?_cons_succ]
    rw [symsFrom_get n (i + 1) j]
    by_cases h : j < n
    · rw [if_pos h, if_pos (by omega), show i + 1 + j = i + (j + 1) by omega]
    · rw [if_neg h, if_neg (by omega)]

theorem symsFrom_length : ∀ (n i : Nat), (symsFrom i n).length = n
  | 0, i => rfl
  | n + 1, i => by simp [symsFrom, symsFrom_length n (i + 1)]

theorem sortRuns_ok (hm : P.follows .mixedOrders = true) {fuel f n : Nat} (hf : plainFn P f = true) (h : sortRuns P fuel f n = true) {q : IntKind} {zs : List Int} (hn : zs.length = n) {w : World} {g cap : Nat} (hg : g < w.heap.size) (hcap : n ≤ cap)
    (hc : ∀ j a, zs[j]? = some a → w.cell? ⟨g, j, none⟩ = some (.int q a)) (hall : ∀ i, i < cap → (w.cell? ⟨g, i, none⟩).isSome = true ∧ w.frozen? ⟨g, i, none⟩ = false) :
    Calls P f #[.slice (some ⟨g, 0, none⟩) n cap] w fun e w' => e = .returned (.tuple #[]) ∧ w.grownBy w' (some g) := by
  let σ : Syms := fun i => (q, zs.getD i 0)
  let ρ : Ren := fun b => if b = 0 then some ⟨g, 0, cap⟩ else none
  have hleaf : ∀ b, (Tr.leaf : Tr AObj).get b = none := fun b => by cases b <;> rfl
  have hget : ∀ b, (miniS n).heap.get b = if b = 0 then some (.cells (symsFrom 0 n) true) else none := fun b => by
    cases b with
    | zero => rfl
    | succ b =>
      show (Tr.node .leaf _ .leaf : Tr AObj).get (b + 1) = _
      rw [get_node_succ, if_neg (Nat.succ_ne_zero b)]
      split <;> exact hleaf _
  have hρ0 : ∀ b L, ρ b = some L → b = 0 ∧ L = ⟨g, 0, cap⟩ := fun b L e => by
    by_cases hb : b = 0
    · simp only [ρ, hb, if_true, Option.some.injEq] at e; exact ⟨hb, e.symm⟩
    · simp [ρ, hb] at e
  have hw : WRel σ 0 w ρ (miniS n) w := by
    refine ⟨Below.refl _ _, Nat.zero_le _, ⟨Nat.zero_le _, by show 1 ≤ lim + 1; omega⟩, fun b b' L L' _ _ _ _ e e' _ => by rw [(hρ0 _ _ e).1, (hρ0 _ _ e').1], fun b hb => ?_, fun b L e => ?_, fun b o hb L e => ?_⟩
    · rw [hget] at hb
      show b < 1
      by_cases h0 : b = 0
      · omega
      · rw [if_neg h0] at hb; exact absurd rfl hb
    · obtain ⟨rfl, rfl⟩ := hρ0 _ _ e
      exact ⟨hg, fun _ => Nat.zero_le _, fun h => absurd h (Nat.not_lt_zero _)⟩
    · obtain ⟨rfl, rfl⟩ := hρ0 _ _ e
      rw [hget, if_pos rfl] at hb
      cases hb
      refine ⟨fun j v hj => ?_, fun _ j hj => ?_, fun _ => ⟨rfl, ?_, hall⟩⟩
      · rw [symsFrom_get] at hj
        by_cases hjn : j < n
        · rw [if_pos hjn] at hj
          cases hj
          have hjz : j < zs.length := by omega
          refine ⟨.int q zs[j], ?_, ?_⟩
          · show w.cell? ⟨g, 0 + j, none⟩ = _
            rw [Nat.zero_add]
            exact hc j _ (by simp [hjz])
          · show _ = Value.int q (zs.getD (0 + j) 0)
            rw [Nat.zero_add]
            simp [hjz]
        · rw [if_neg hjn] at hj; cases hj
      · show w.frozen? ⟨g, 0 + j, none⟩ = false
        rw [Nat.zero_add]
        rw [symsFrom_length] at hj
        exact (hall j (by omega)).2
      · rw [symsFrom_length]; exact hcap
  have hr : ∃ r, runX P true 1000 (fun _ => none) (fun _ _ => true) (run P (fun _ => none) selfFacts (drawRun P) fuel) fuel (.call f [.slice 0 0 n (.grown 1)]) (miniS n) unitK = .ok r := by
    unfold sortRuns at h
    split at h
    · rename_i r hr; exact ⟨r, hr⟩
    · cases h
  obtain ⟨r, hr⟩ := hr
  have hX := (runX_ok (σ := σ) (N0 := 0) (w0 := w) (M := 1000) (both := true) (prims := fun _ => none) (fun _ i j => rfl) hm (run_ok (facts := selfFacts) (prims := fun _ => none) hm selfFacts_ok (fun f p h => by cases h) fuel) (eq := fun _ _ => true) (fun _ _ _ => rfl) (fun f p h => by cases h) fuel).call _ _ _ _ _ hr hf
  refine (hX ρ w #[.slice (some ⟨g, 0, none⟩) n cap] hw ⟨by show 1 ≤ 1000; omega, fun i hi _ => ?_⟩ ⟨_, _, rfl, ⟨⟨g, 0, cap⟩, cap, rfl, rfl, hcap, rfl, by show 0 + cap * 1 = cap; omega⟩, rfl⟩).mono fun e w' ⟨v, s', hk, hM, u, ρ', he, hv, hP⟩ => ?_
  · show (if i = 0 then _ else _) = _
    rw [if_neg (by have : 1 ≤ i := hi; omega)]
  · replace hk : unitK (.val v) s' = .ok r := hk
    have hv0 : v = .tup [] := by
      unfold unitK at hk
      split at hk
      · rename_i d _ hd
        cases hd
        rfl
      · cases hk
    subst hv0
    obtain ⟨ws, rfl, hws⟩ := hv
    have : ws = #[] := by apply Array.toList_inj.1; exact hws
    subst this
    have hbs := hP.wrel.base
    refine ⟨he, hbs.os, hbs.tape, hbs.output, hP.size, fun k hk hne => hP.frame k hk fun b L hb _ e hL => ?_⟩
    obtain ⟨rfl, rfl⟩ := hρ0 _ _ e
    exact hne (by rw [← hL])

end
end Go.Am
