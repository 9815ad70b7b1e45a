/-
  What a call that sorts a few unknown numbers in place may do: it comes back, and turns no other block.
-/
import Derived.Test.YtlgfopfibopcnaaAm29
namespace Go.Am
open Go Go.RowKit
set_option linter.unusedVariables false

/-! ### Ranks -/
def rk (zs : List Int) (a : Int) : Nat := match zs with
  | [] => 0
  | z :: r => (if z < a then 1 else 0) + rk r a

def many (zs : List Int) (a : Int) : Nat := match zs with
  | [] => 0
  | z :: r => (if z = a then 1 else 0) + many r a

theorem many_pos {a : Int} : ∀ {zs : List Int}, a ∈ zs → 1 ≤ many zs a
  | z :: r, h => by
    unfold many
    rcases List.mem_cons.1 h with rfl | h
    · rw [if_pos rfl]; omega
    · have := many_pos h; omega

theorem rk_lt {a b : Int} (h : a < b) : ∀ zs : List Int, rk zs a + many zs a ≤ rk zs b
  | [] => Nat.le_refl _
  | z :: r => by
    have := rk_lt h r
    unfold rk many
    by_cases h1 : z < a
    · have h2 : ¬ z = a := by omega
      have h3 : z < b := by omega
      simp only [h1, h2, h3, if_true, if_false]; omega
    · by_cases h2 : z = a
      · have h3 : z < b := by omega
        simp only [h1, if_pos h2, h3, if_true, if_false]; omega
      · simp only [h1, h2, if_false]; split <;> omega

theorem rk_le {a b : Int} (h : a ≤ b) : ∀ zs : List Int, rk zs a ≤ rk zs b
  | [] => Nat.le_refl _
  | z :: r => by
    have := rk_le h r
    unfold rk
    by_cases h1 : z < a
    · have h3 : z < b := by omega
      simp only [h1, h3, if_true]; omega
    · simp only [h1, if_false]; split <;> omega

theorem rk_bound (a : Int) : ∀ zs : List Int, rk zs a + many zs a ≤ zs.length
  | [] => Nat.le_refl _
  | z :: r => by
    have := rk_bound a r
    unfold rk many
    simp only [List.length_cons]
    by_cases h1 : z < a
    · have h2 : ¬ z = a := by omega
      simp only [h1, h2, if_true, if_false]; omega
    · simp only [h1, if_false]; split <;> omega

theorem rk_iff {zs : List Int} {a b : Int} (ha : a ∈ zs) : rk zs a < rk zs b ↔ a < b := by
  constructor
  · intro h
    by_cases hb : a < b
    · exact hb
    · have := rk_le (show b ≤ a by omega) zs
      omega
  · intro h
    have h1 := rk_lt h zs
    have h2 := many_pos ha
    omega

/-- All rows of so many numbers below `n`. -/
def rows (n : Nat) : Nat → List (List Nat)
  | 0 => [[]]
  | m + 1 => (rows n m).flatMap fun r => (List.range n).map fun x => x :: r

theorem rows_mem {n : Nat} : ∀ {r : List Nat}, (∀ x ∈ r, x < n) → r ∈ rows n r.length
  | [], _ => by simp [rows]
  | x :: r, h => by
    simp only [List.length_cons, rows, List.mem_flatMap, List.mem_map, List.mem_range]
    exact ⟨r, rows_mem fun y hy => h y (by simp [hy]), x, h x (by simp), rfl⟩

theorem apartN_of : ∀ {l : List Nat}, l.Nodup → apartN l = true
  | [], _ => rfl
  | a :: r, h => by
    obtain ⟨h1, h2⟩ := List.nodup_cons.1 h
    simp only [apartN, Bool.and_eq_true]
    refine ⟨List.all_eq_true.2 fun b hb => ?_, apartN_of h2⟩
    cases hq : Nat.beq a b with
    | false => rfl
    | true => have := Nat.eq_of_beq_eq_true hq; subst this; exact absurd hb h1

noncomputable section

/-- What is known of numbers of which the order is known. -/
def rankFacts (n : Nat) (r : List Nat) : Facts := fun op vs => match op, vs with
  | .binOp .neq _ _ _ _, [.sym i, .sym j] => bif Nat.beq i j then some (.lit (.bool false)) else none
  | .binOp .lss _ _ _ _, [.sym i, .sym j] => bif Nat.blt i n && Nat.blt j n then some (.lit (.bool (Nat.blt (r.getD i 0) (r.getD j 0)))) else none
  | _, _ => none

def symsFrom (i : Nat) : Nat → List AVal
  | 0 => []
  | n + 1 => .sym i :: symsFrom (i + 1) n

def miniS (n : Nat) : AState := ⟨.node .leaf (some (.cells (symsFrom 0 n) true)) .leaf, 1, big, 0⟩

def sortRun (P : Program) (fuel f n : Nat) (r : List Nat) : Bool := match run P (fun _ => none) (rankFacts n r) (drawRun P) fuel (.call f [.slice 0 0 n (.grown 1)]) (miniS n) with
  | .ok (.val (.tup []), s) => Nat.ble s.next 1000
  | _ => false

def sortRuns (P : Program) (fuel f n : Nat) : Bool := (rows n n).all fun r => !apartN r || sortRun P fuel f n r

end

section
variable {P : Program}

theorem rankFacts_ok {q : IntKind} {zs : List Int} {n : Nat} (hn : zs.length = n) : FactsOk P (fun i => (q, zs.getD i 0)) (rankFacts n (zs.map (rk zs))) := by
  intro op vs v hv ρ e w hr
  unfold rankFacts at hv
  split at hv
  · rename_i t x y yt i j
    cases hq : Nat.beq i j with
    | false => rw [hq] at hv; cases hv
    | true =>
      rw [hq, cond_true] at hv
      cases hv
      have := Nat.eq_of_beq_eq_true hq
      subst this
      have hop : (Op.binOp .neq t x y yt).operands.toList.map e = [e x, e y] := by simp [Op.operands]
      rw [hop] at hr
      obtain ⟨u1, r1, e1, hu1, u2, r2, e2, hu2, e3⟩ := hr
      simp only [List.cons.injEq] at e1
      rw [← e1.2] at e2
      simp only [List.cons.injEq] at e2
      have h1 : e x = .int q (zs.getD i 0) := e1.1.trans hu1
      have h2 : e y = .int q (zs.getD i 0) := e2.1.trans hu2
      refine ⟨.bool false, fun o ho => ?_, rfl, rfl⟩
      unfold execOp
      rw [ho]
      simp only []
      rw [h1, h2, Sem.run_bind]
      have : (do eqGuard .neq t x y (.int q (zs.getD i 0)) (.int q (zs.getD i 0)); binOp .neq t (.int q (zs.getD i 0)) (.int q (zs.getD i 0)) : Sem Value).run P w = .ok (.bool false) w := by
        rw [Sem.run_bind]
        have h3 : (eqGuard .neq t x y (.int q (zs.getD i 0)) (.int q (zs.getD i 0))).run P w = .ok () w := by simp [eqGuard]
        rw [h3, Result.andThen_ok, binOp_neq, Sem.run_pure]
        simp
      rw [this]
      rfl
  · rename_i t x y yt i j
    cases hq : (Nat.blt i n && Nat.blt j n) with
    | false => rw [hq] at hv; cases hv
    | true =>
      rw [hq, cond_true] at hv
      cases hv
      simp only [Bool.and_eq_true] at hq
      have hi : i < zs.length := by rw [hn]; exact Nat.le_of_ble_eq_true hq.1
      have hj : j < zs.length := by rw [hn]; exact Nat.le_of_ble_eq_true hq.2
      have hop : (Op.binOp .lss t x y yt).operands.toList.map e = [e x, e y] := by simp [Op.operands]
      rw [hop] at hr
      obtain ⟨u1, r1, e1, hu1, u2, r2, e2, hu2, e3⟩ := hr
      simp only [List.cons.injEq] at e1
      rw [← e1.2] at e2
      simp only [List.cons.injEq] at e2
      have h1 : e x = .int q zs[i] := by rw [e1.1, show u1 = _ from hu1]; simp [hi]
      have h2 : e y = .int q zs[j] := by rw [e2.1, show u2 = _ from hu2]; simp [hj]
      have hb : Nat.blt ((zs.map (rk zs)).getD i 0) ((zs.map (rk zs)).getD j 0) = decide (zs[i] < zs[j]) := by
        have g1 : (zs.map (rk zs)).getD i 0 = rk zs zs[i] := by simp [hi]
        have g2 : (zs.map (rk zs)).getD j 0 = rk zs zs[j] := by simp [hj]
        rw [g1, g2]
        have := rk_iff (a := zs[i]) (b := zs[j]) (List.getElem_mem hi)
        by_cases h : zs[i] < zs[j]
        · rw [decide_eq_true h]
          exact Nat.ble_eq_true_of_le (this.2 h)
        · rw [decide_eq_false h]
          cases hq2 : Nat.blt (rk zs zs[i]) (rk zs zs[j]) with
          | false => rfl
          | true => exact absurd (this.1 (Nat.le_of_ble_eq_true hq2)) h
      rw [hb]
      refine ⟨.bool (decide (zs[i] < zs[j])), fun o ho => ?_, rfl, rfl⟩
      unfold execOp
      rw [ho]
      simp only []
      rw [h1, h2, Sem.run_bind]
      have : (do eqGuard .lss t x y (.int q zs[i]) (.int q zs[j]); binOp .lss t (.int q zs[i]) (.int q zs[j]) : Sem Value).run P w = .ok (.bool (decide (zs[i] < zs[j]))) w := by
        rw [Sem.run_bind]
        have h3 : (eqGuard .lss t x y (.int q zs[i]) (.int q zs[j])).run P w = .ok () w := by simp [eqGuard]
        rw [h3, Result.andThen_ok, binOp_lss, Sem.run_pure]
      rw [this]
      rfl
  · cases hv

theorem symsFrom_get : ∀ (n i j : Nat), (symsFrom i n)[j]? = if j < n then some (.sym (i + j)) else none
  | 0, i, j => by simp [symsFrom]
  | n + 1, i, 0 => by simp [symsFrom]
  | n + 1, i, j + 1 => by
    simp only [symsFrom, List.getElem?_cons_succ]
    rw [symsFrom_get n (i + 1) j]
    by_cases h : j < n
    · rw [if_pos h, if_pos (by omega), show i + 1 + j = i + (j + 1) by omega]
    · rw [if_neg h, if_neg (by omega)]

theorem symsFrom_length : ∀ (n i : Nat), (symsFrom i n).length = n
  | 0, i => rfl
  | n + 1, i => by simp [symsFrom, symsFrom_length n (i + 1)]

theorem sortRuns_ok (hm : P.follows .mixedOrders = true) {fuel f n : Nat} (hf : plainFn P f = true) (h : sortRuns P fuel f n = true) {q : IntKind} {zs : List Int} (hn : zs.length = n) (hnd : zs.Nodup) {w : World} {g cap : Nat} (hg : g < w.heap.size) (hcap : n ≤ cap)
    (hc : ∀ j a, zs[j]? = some a → w.cell? ⟨g, j, none⟩ = some (.int q a)) (hall : ∀ i, i < cap → (w.cell? ⟨g, i, none⟩).isSome = true ∧ w.frozen? ⟨g, i, none⟩ = false) :
    Calls P f #[.slice (some ⟨g, 0, none⟩) n cap] w fun e w' => e = .returned (.tuple #[]) ∧ w.grownBy w' (some g) := by
  let σ : Syms := fun i => (q, zs.getD i 0)
  let ρ : Ren := fun b => if b = 0 then some ⟨g, 0, cap⟩ else none
  have hleaf : ∀ b, (Tr.leaf : Tr AObj).get b = none := fun b => by cases b <;> rfl
  have hget : ∀ b, (miniS n).heap.get b = if b = 0 then some (.cells (symsFrom 0 n) true) else none := fun b => by
    cases b with
    | zero => rfl
    | succ b =>
      show (Tr.node .leaf _ .leaf : Tr AObj).get (b + 1) = _
      rw [get_node_succ, if_neg (Nat.succ_ne_zero b)]
      split <;> exact hleaf _
  have hρ0 : ∀ b L, ρ b = some L → b = 0 ∧ L = ⟨g, 0, cap⟩ := fun b L e => by
    by_cases hb : b = 0
    · simp only [ρ, hb, if_true, Option.some.injEq] at e; exact ⟨hb, e.symm⟩
    · simp [ρ, hb] at e
  have hw : WRel σ 0 w ρ (miniS n) w := by
    refine ⟨Below.refl _ _, Nat.zero_le _, ⟨Nat.zero_le _, by show 1 ≤ lim + 1; omega⟩, fun b b' L L' _ _ _ _ e e' _ => by rw [(hρ0 _ _ e).1, (hρ0 _ _ e').1], fun b hb => ?_, fun b L e => ?_, fun b o hb L e => ?_⟩
    · rw [hget] at hb
      show b < 1
      by_cases h0 : b = 0
      · omega
      · rw [if_neg h0] at hb; exact absurd rfl hb
    · obtain ⟨rfl, rfl⟩ := hρ0 _ _ e
      exact ⟨hg, fun _ => Nat.zero_le _, fun h => absurd h (Nat.not_lt_zero _)⟩
    · obtain ⟨rfl, rfl⟩ := hρ0 _ _ e
      rw [hget, if_pos rfl] at hb
      cases hb
      refine ⟨fun j v hj => ?_, fun _ j hj => ?_, fun _ => ⟨rfl, ?_, hall⟩⟩
      · rw [symsFrom_get] at hj
        by_cases hjn : j < n
        · rw [if_pos hjn] at hj
          cases hj
          have hjz : j < zs.length := by omega
          refine ⟨.int q zs[j], ?_, ?_⟩
          · show w.cell? ⟨g, 0 + j, none⟩ = _
            rw [Nat.zero_add]
            exact hc j _ (by simp [hjz])
          · show _ = Value.int q (zs.getD (0 + j) 0)
            rw [Nat.zero_add]
            simp [hjz]
        · rw [if_neg hjn] at hj; cases hj
      · show w.frozen? ⟨g, 0 + j, none⟩ = false
        rw [Nat.zero_add]
        rw [symsFrom_length] at hj
        exact (hall j (by omega)).2
      · rw [symsFrom_length]; exact hcap
  have hr : sortRun P fuel f n (zs.map (rk zs)) = true := by
    have hmem : zs.map (rk zs) ∈ rows n n := by
      have h1 : ∀ x ∈ zs.map (rk zs), x < n := fun x hx => by
        obtain ⟨a, ha, rfl⟩ := List.mem_map.1 hx
        have h2 := rk_bound a zs
        have h3 := many_pos ha
        omega
      have h2 := rows_mem h1
      rwa [List.length_map, hn] at h2
    have h1 := List.all_eq_true.1 h _ hmem
    have h2 : apartN (zs.map (rk zs)) = true := by
      refine apartN_of (List.pairwise_map.2 (hnd.imp_of_mem fun {a b} ha hb hne e => hne ?_))
      have k1 := rk_iff (b := b) ha
      have k2 := rk_iff (b := a) hb
      omega
    rw [h2] at h1
    simpa using h1
  have hr2 : ∃ s', run P (fun _ => none) (rankFacts n (zs.map (rk zs))) (drawRun P) fuel (.call f [.slice 0 0 n (.grown 1)]) (miniS n) = .ok (.val (.tup []), s') ∧ s'.next ≤ 1000 := by
    unfold sortRun at hr
    split at hr
    · rename_i s' hs; exact ⟨s', hs, Nat.le_of_ble_eq_true hr⟩
    · cases hr
  obtain ⟨s', hrun, hM⟩ := hr2
  obtain ⟨v, hv0, hX⟩ := (run_ok (σ := σ) (N0 := 0) (w0 := w) (facts := rankFacts n (zs.map (rk zs))) (prims := fun _ => none) hm (rankFacts_ok hn) (fun f p h => by cases h) fuel).call _ _ _ _ _ hrun hf ρ w #[.slice (some ⟨g, 0, none⟩) n cap] hw
    (fun i hi _ => by
      show (if i = 0 then _ else _) = _
      rw [if_neg (by have : 1 ≤ i := hi; omega)]) ⟨_, _, rfl, ⟨⟨g, 0, cap⟩, cap, rfl, rfl, hcap, rfl, by show 0 + cap * 1 = cap; omega⟩, rfl⟩
  cases hv0
  refine hX.mono fun e w' ⟨u, ρ', he, hv, hP⟩ => ?_
  · obtain ⟨ws, rfl, hws⟩ := hv
    have : ws = #[] := by apply Array.toList_inj.1; exact hws
    subst this
    have hbs := hP.wrel.base
    refine ⟨he, hbs.os, hbs.tape, hbs.output, hP.size, fun k hk hne => hP.frame k hk fun b L hb _ e hL => ?_⟩
    obtain ⟨rfl, rfl⟩ := hρ0 _ _ e
    exact hne (by rw [← hL])

end
end Go.Am
