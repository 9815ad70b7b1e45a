/-
  What a call that sorts a few unknown numbers in place leaves: the same numbers, rising.
-/
import Derived.Test.YtlgfopfibopcnaaAm30
namespace Go.Am
open Go Go.RowKit
set_option linter.unusedVariables false

noncomputable section

/-- Unknown numbers, whose ranks rise. -/
def risesR (n : Nat) (r : List Nat) : List AVal → Bool
  | [] => true
  | .sym i :: t => Nat.blt i n && (match t with
      | [] => true
      | .sym j :: _ => Nat.blt (r.getD i 0) (r.getD j 0)
      | _ => false) && risesR n r t
  | _ => false

def sortRunC (P : Program) (fuel f n : Nat) (r : List Nat) : Bool := match run P (fun _ => none) (rankFacts n r) (drawRun P) fuel (.call f [.slice 0 0 n (.grown 1)]) (miniS n) with
  | .ok (.val (.tup []), s) => Nat.ble s.next 1000 && (match s.heap.get 0 with
      | some (.cells L _) => Nat.beq L.length n && risesR n r L
      | _ => false)
  | _ => false

def sortRunsC (P : Program) (fuel f n : Nat) : Bool := (rows n n).all fun r => !apartN r || sortRunC P fuel f n r

end

theorem risesR_spec {n : Nat} {r : List Nat} : ∀ {L : List AVal}, risesR n r L = true → ∃ is : List Nat, L = is.map AVal.sym ∧ (∀ i ∈ is, i < n) ∧ is.Pairwise fun i j => r.getD i 0 < r.getD j 0
  | [], _ => ⟨[], rfl, fun i hi => (by cases hi), List.Pairwise.nil⟩
  | a :: t, h => by
    cases a with
    | sym i =>
      simp only [risesR, Bool.and_eq_true] at h
      obtain ⟨⟨h1, h2⟩, h3⟩ := h
      obtain ⟨is, rfl, hlt, hpw⟩ := risesR_spec h3
      refine ⟨i :: is, rfl, fun j hj => ?_, List.pairwise_cons.2 ⟨fun j hj => ?_, hpw⟩⟩
      · rcases List.mem_cons.1 hj with rfl | hj
        · exact Nat.le_of_ble_eq_true h1
        · exact hlt j hj
      · cases is with
        | nil => cases hj
        | cons k is =>
          simp only [List.map_cons] at h2
          have hik : r.getD i 0 < r.getD k 0 := Nat.le_of_ble_eq_true h2
          rcases List.mem_cons.1 hj with rfl | hj
          · exact hik
          · exact Nat.lt_trans hik ((List.pairwise_cons.1 hpw).1 j hj)
    | _ => simp [risesR] at h

theorem nodup_le {α : Type} [DecidableEq α] : ∀ (l l0 : List α), l.Nodup → (∀ x ∈ l, x ∈ l0) → l.length ≤ l0.length
  | [], _, _, _ => Nat.zero_le _
  | x :: r, l0, hn, hs => by
    have hx := hs x (by simp)
    have hn' := List.nodup_cons.1 hn
    have := nodup_le r (l0.erase x) hn'.2 (fun y hy => (List.mem_erase_of_ne (fun e => hn'.1 (by rw [← e]; exact hy))).2 (hs y (by simp [hy])))
    rw [List.length_erase_of_mem hx] at this
    have h0 := List.length_pos_of_mem hx
    simp only [List.length_cons]
    omega

section
variable {P : Program}

theorem sortRunsC_ok (hm : P.follows .mixedOrders = true) {fuel f n : Nat} (hf : plainFn P f = true) (h : sortRunsC P fuel f n = true) {q : IntKind} {zs : List Int} (hn : zs.length = n) (hnd : zs.Nodup) {w : World} {g cap : Nat} (hg : g < w.heap.size) (hcap : n ≤ cap)
    (hc : ∀ j a, zs[j]? = some a → w.cell? ⟨g, j, none⟩ = some (.int q a)) (hall : ∀ i, i < cap → (w.cell? ⟨g, i, none⟩).isSome = true ∧ w.frozen? ⟨g, i, none⟩ = false) :
    Calls P f #[.slice (some ⟨g, 0, none⟩) n cap] w fun e w' => e = .returned (.tuple #[]) ∧ w.grownBy w' (some g) ∧ ∃ L : List Int, L.Perm zs ∧ L.Pairwise (· < ·) ∧ ∀ j a, L[j]? = some a → w'.cell? ⟨g, j, none⟩ = some (.int q a) := by
  let σ : Syms := fun i => (q, zs.getD i 0)
  let ρ : Ren := fun b => if b = 0 then some ⟨g, 0, cap⟩ else none
  have hleaf : ∀ b, (Tr.leaf : Tr AObj).get b = none := fun b => by cases b <;> rfl
  have hget : ∀ b, (miniS n).heap.get b = if b = 0 then some (.cells (symsFrom 0 n) true) else none := fun b => by
    cases b with
    | zero => rfl
    | succ b =>
      show (Tr.node .leaf _ .leaf : Tr AObj).get (b + 1) = _
      rw [get_node_succ, if_neg (Nat.succ_ne_zero b)]
      split <;> exact hleaf _
  have hρ0 : ∀ b L, ρ b = some L → b = 0 ∧ L = ⟨g, 0, cap⟩ := fun b L e => by
    by_cases hb : b = 0
    · simp only [ρ, hb, if_true, Option.some.injEq] at e; exact ⟨hb, e.symm⟩
    · simp [ρ, hb] at e
  have hw : WRel σ 0 w ρ (miniS n) w := by
    refine ⟨Below.refl _ _, Nat.zero_le _, ⟨Nat.zero_le _, by show 1 ≤ lim + 1; omega⟩, fun b b' L L' _ _ _ _ e e' _ => by rw [(hρ0 _ _ e).1, (hρ0 _ _ e').1], fun b hb => ?_, fun b L e => ?_, fun b o hb L e => ?_⟩
    · rw [hget] at hb
      show b < 1
      by_cases h0 : b = 0
      · omega
      · rw [if_neg h0] at hb; exact absurd rfl hb
    · obtain ⟨rfl, rfl⟩ := hρ0 _ _ e
      exact ⟨hg, fun _ => Nat.zero_le _, fun h => absurd h (Nat.not_lt_zero _)⟩
    · obtain ⟨rfl, rfl⟩ := hρ0 _ _ e
      rw [hget, if_pos rfl] at hb
      cases hb
      refine ⟨fun j v hj => ?_, fun _ j hj => ?_, fun _ => ⟨rfl, ?_, hall⟩⟩
      · rw [symsFrom_get] at hj
        by_cases hjn : j < n
        · rw [if_pos hjn] at hj
          cases hj
          have hjz : j < zs.length := by omega
          refine ⟨.int q zs[j], ?_, ?_⟩
          · show w.cell? ⟨g, 0 + j, none⟩ = _
            rw [Nat.zero_add]
            exact hc j _ (by simp [hjz])
          · show _ = Value.int q (zs.getD (0 + j) 0)
            rw [Nat.zero_add]
            simp [hjz]
        · rw [if_neg hjn] at hj; cases hj
      · show w.frozen? ⟨g, 0 + j, none⟩ = false
        rw [Nat.zero_add]
        rw [symsFrom_length] at hj
        exact (hall j (by omega)).2
      · rw [symsFrom_length]; exact hcap
  have hr : sortRunC P fuel f n (zs.map (rk zs)) = true := by
    have hmem : zs.map (rk zs) ∈ rows n n := by
      have h1 : ∀ x ∈ zs.map (rk zs), x < n := fun x hx => by
        obtain ⟨a, ha, rfl⟩ := List.mem_map.1 hx
        have h2 := rk_bound a zs
        have h3 := many_pos ha
        omega
      have h2 := rows_mem h1
      rwa [List.length_map, hn] at h2
    have h1 := List.all_eq_true.1 h _ hmem
    have h2 : apartN (zs.map (rk zs)) = true := by
      refine apartN_of (List.pairwise_map.2 (hnd.imp_of_mem fun {a b} ha hb hne e => hne ?_))
      have k1 := rk_iff (b := b) ha
      have k2 := rk_iff (b := a) hb
      omega
    rw [h2] at h1
    simpa using h1
  have hr2 : ∃ s' L b, run P (fun _ => none) (rankFacts n (zs.map (rk zs))) (drawRun P) fuel (.call f [.slice 0 0 n (.grown 1)]) (miniS n) = .ok (.val (.tup []), s') ∧ s'.next ≤ 1000 ∧ s'.heap.get 0 = some (.cells L b) ∧ L.length = n ∧ risesR n (zs.map (rk zs)) L = true := by
    unfold sortRunC at hr
    split at hr
    · rename_i s' hs
      rw [Bool.and_eq_true] at hr
      obtain ⟨hr1, hr3⟩ := hr
      split at hr3
      · rename_i L b hL
        rw [Bool.and_eq_true] at hr3
        exact ⟨s', L, b, hs, Nat.le_of_ble_eq_true hr1, hL, Nat.eq_of_beq_eq_true hr3.1, hr3.2⟩
      · cases hr3
    · cases hr
  obtain ⟨s', L, bg, hrun, hM, hL, hLn, hLr⟩ := hr2
  obtain ⟨is, rfl, hlt, hpw⟩ := risesR_spec hLr
  obtain ⟨v, hv0, hX⟩ := (run_ok (σ := σ) (N0 := 0) (w0 := w) (facts := rankFacts n (zs.map (rk zs))) (prims := fun _ => none) hm (rankFacts_ok hn) (fun f p h => by cases h) fuel).call _ _ _ _ _ hrun hf ρ w #[.slice (some ⟨g, 0, none⟩) n cap] hw
    (fun i hi _ => by
      show (if i = 0 then _ else _) = _
      rw [if_neg (by have : 1 ≤ i := hi; omega)]) ⟨_, _, rfl, ⟨⟨g, 0, cap⟩, cap, rfl, rfl, hcap, rfl, by show 0 + cap * 1 = cap; omega⟩, rfl⟩
  cases hv0
  refine hX.mono fun e w' ⟨u, ρ', he, hv, hP⟩ => ?_
  obtain ⟨ws, rfl, hws⟩ := hv
  have : ws = #[] := by apply Array.toList_inj.1; exact hws
  subst this
  have hbs := hP.wrel.base
  have hrank : ∀ i, i < n → (zs.map (rk zs)).getD i 0 = rk zs (zs.getD i 0) := fun i hi => by
    have : i < zs.length := by omega
    simp [this]
  have hin : ∀ i, i < n → zs.getD i 0 ∈ zs := fun i hi => by
    have : i < zs.length := by omega
    simp [this]
  have hrise : (is.map fun i => zs.getD i 0).Pairwise (· < ·) := by
    refine List.pairwise_map.2 (hpw.imp_of_mem fun {i j} hi hj hij => ?_)
    rw [hrank i (hlt i hi), hrank j (hlt j hj)] at hij
    exact (rk_iff (hin i (hlt i hi))).1 hij
  have hlen : (is.map fun i => zs.getD i 0).length = zs.length := by rw [List.length_map] at hLn ⊢; omega
  have hnd' : (is.map fun i => zs.getD i 0).Nodup := hrise.imp fun {a b} h => by omega
  have hsub : ∀ x ∈ (is.map fun i => zs.getD i 0), x ∈ zs := fun x hx => by
    obtain ⟨i, hi, rfl⟩ := List.mem_map.1 hx
    exact hin i (hlt i hi)
  refine ⟨he, ⟨hbs.os, hbs.tape, hbs.output, hP.size, fun k hk hne => hP.frame k hk fun b L hb _ e hL => ?_⟩, is.map fun i => zs.getD i 0, ?_, hrise, fun j a hj => ?_⟩
  · obtain ⟨rfl, rfl⟩ := hρ0 _ _ e
    exact hne (by rw [← hL])
  · refine (List.perm_ext_iff_of_nodup hnd' hnd).2 fun x => ⟨hsub x, fun hx => ?_⟩
    apply Decidable.byContradiction
    intro hno
    have h1 := nodup_le _ (zs.erase x) hnd' (fun y hy => (List.mem_erase_of_ne (fun e => hno (by rw [← e]; exact hy))).2 (hsub y hy))
    rw [List.length_erase_of_mem hx] at h1
    have h0 := List.length_pos_of_mem hx
    omega
  · have hρ : ρ' 0 = some ⟨g, 0, cap⟩ := hP.ext 0 _ rfl
    obtain ⟨h1, _, _⟩ := hP.wrel.heap 0 _ hL _ hρ
    rw [List.getElem?_map] at hj
    cases hi : is[j]? with
    | none => rw [hi] at hj; cases hj
    | some i =>
      rw [hi] at hj
      obtain rfl : zs.getD i 0 = a := by simpa using hj
      obtain ⟨u, hu, hvu⟩ := h1 j (.sym i) (by rw [List.getElem?_map, hi]; rfl)
      have hu' : w'.cell? ⟨g, 0 + j, none⟩ = some u := hu
      rw [Nat.zero_add] at hu'
      rw [hu', show u = Value.int q (zs.getD i 0) from hvu]

end
end Go.Am
