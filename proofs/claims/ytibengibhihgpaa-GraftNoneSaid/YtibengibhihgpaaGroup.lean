/-
  graft.group of sixteen pages of which none is there: nothing, and no block.
-/
import Derived.Test.YtibengibhihgpaaBase
import Derived.Test.YtibengibhihgpaaAm31
import Derived.Maps.RangeWalk
import Derived.WalkKit
import Derived.WalkSpells
namespace Go.Proofs.Ytibengibhihgpaa
open Go Go.RowKit Go.Maps Go.Am
set_option linter.unusedVariables false

theorem law3G : Keyed Try.prog 3 := int_keyed Try.underlying3

/-- A leaf's two numbers. -/
def leafR {H : Type} (v : Value) : Option (DataW H × List MemPlace) := match v with
  | .agg xs => match xs.toList with
    | [.int .i64 a, .int .i64 b] => some (.agg [.lit (.int .i64 a), .lit (.int .i64 b)], [])
    | _ => none
  | _ => none

theorem leafR_zero {H : Type} {v : Value} {ps : List MemPlace} (h : leafR (H := H) v = some (.agg [.lit (.int .i64 0), .lit (.int .i64 0)], ps)) : v = .agg #[.int .i64 0, .int .i64 0] := by
  unfold leafR at h
  split at h
  · rename_i xs
    split at h
    · rename_i a b hx
      simp only [Option.some.injEq, Prod.mk.injEq, DataW.agg.injEq, List.cons.injEq, DataW.lit.injEq, Lit.int.injEq, true_and, and_true] at h
      obtain ⟨⟨rfl, rfl⟩, _⟩ := h
      have : xs = #[.int .i64 0, .int .i64 0] := by apply Array.toList_inj.1; rw [hx]
      rw [this]
    · cases h
  · cases h

theorem zeroLeaf (w : World) : (zeroValue 85).run Try.prog w = .ok (.agg #[.int .i64 0, .int .i64 0]) w := by kernel_rfl

set_option maxRecDepth 100000 in
set_option maxHeartbeats 2000000 in
theorem group_none {H : Type} (b n : Nat) (g : Int) (D0 : DataW H) (w : World) (hown : w.ownsMap Try.prog 3 leafR b n D0) (hg0 : 0 ≤ g) (hg1 : g < 100000) (hno : ∀ k : Int, g * 16 ≤ k → k < g * 16 + 16 → Maps.has D0 (.int .i64 k) = false) :
    Calls Try.prog 148 #[.map (some b), .int .i64 g] w fun e w' => e = .returned (.tuple #[.bool false, .bool false]) ∧ Below w.heap.size w w' := by
  have hbl := hown.lt
  have hat : ∀ k : Int, g * 16 ≤ k → k < g * 16 + 16 → ∀ z, D0.atKey (.int .i64 k) z = z := fun k h1 h2 z => atKey_of_not_has (hno k h1 h2) z
  go_enter Try.func148, Try.ntmps148
  go_wp2_with (first
    | (at_lookup; refine wpList_lookup_own_ok _ rfl _ _ 180 rfl 3 85 law3G Try.underlying180 leafR (zeroLeaf _) (.agg [.lit (.int .i64 0), .lit (.int .i64 0)]) [] rfl b n D0 rfl hown _ _ rfl (keyOf_int_mk Try.underlying3 (WalkArith.wf_i64 (by omega))) ?_; intro v ps hv; rw [hat _ (by omega) (by omega)] at hv; rw [hno _ (by omega) (by omega)]; obtain rfl := leafR_zero hv; clear hv)
    | go_in)
  go_loopw [4, 5, 17] (fun v4 v5 v17 wr => ∃ i : Nat, v17 = .int .i64 i ∧ i ≤ 16 ∧ v4 = .bool false ∧ v5 = .bool false ∧ wr.ownsMap Try.prog 3 leafR b n D0 ∧ Below w.heap.size w wr) (fun _ _ v17 wr => 16 - (match v17 with | .int _ k => k.toNat | _ => 0))
  case atStart => exact ⟨0, rfl, by omega, rfl, rfl, hown.alloc _, (Below.refl _ _).alloc (Nat.le_refl _) _⟩
  case round =>
    obtain ⟨i, rfl, hi, rfl, rfl, hownr, hnx⟩ := hrel
    go_wp2_with (first
      | (at_lookup; refine wpList_lookup_own_ok _ rfl _ _ 180 rfl 3 85 law3G Try.underlying180 leafR (zeroLeaf _) (.agg [.lit (.int .i64 0), .lit (.int .i64 0)]) [] rfl b n D0 rfl hownr _ _ rfl (keyOf_int_mk Try.underlying3 (WalkArith.wf_i64 (by omega))) ?_; intro v ps hv; rw [hat _ (by omega) (by omega)] at hv; rw [hno _ (by omega) (by omega)]; obtain rfl := leafR_zero hv; clear hv)
      | go_in)
    · refine ⟨⟨i + 1, by simp, by omega, rfl, rfl, hownr.alloc _, hnx.alloc hnx.size _⟩, ?_⟩
      show 16 - ((i : Int) + 1).toNat < 16 - (i : Int).toNat
      omega
    · go_ret2
      exact ⟨rfl, hnx⟩

/-! ### For the machine -/
def valsL (es : List AEntry) : Bool := es.all fun e => match e.val with
  | .agg [.lit (.int .i64 _), .lit (.int .i64 _)] => true
  | _ => false

theorem valsL_ok {H : Type} {σ : Syms} {ρ : Am.Ren} {es : List AEntry} {ms : List MapEntry} (h : valsL es = true) (hr : ERels σ ρ es ms) : ∀ x ∈ ms, ∃ z, leafR (H := H) x.val = some z := by
  intro x hx
  obtain ⟨a, ha, _, _, hv⟩ := hr.mem x hx
  have := List.all_eq_true.1 h a ha
  split at this
  · rename_i c d hval
    rw [hval] at hv
    obtain ⟨ws, h1, u1, r1, e1, ⟨rfl, _⟩, u2, r2, rfl, ⟨rfl, _⟩, rfl⟩ := hv
    rw [h1]
    refine ⟨(.agg [.lit (.int .i64 c), .lit (.int .i64 d)], []), ?_⟩
    unfold leafR
    simp only [e1]
  · cases this

/-- None of the sixteen is there. -/
def noneOf (g : Int) (l : List Int) : Bool := l.all fun k => decide (k < g * 16) || decide (g * 16 + 16 ≤ k)

noncomputable def groupA : List AVal → AState → R (AVal × AState)
  | [.map b, .lit (.int .i64 g)], s => do
    match ← s.get b with
    | .map es k => match fitQ .i64 es k with
      | some l => bif valsL es && (noneOf g l && (decide (0 ≤ g) && decide (g < 100000))) then .ok (.tup [.lit (.bool false), .lit (.bool false)], s) else .fail "group: some"
      | none => .fail "group: keys"
    | _ => .fail "group"
  | _, _ => .fail "group"

theorem groupA_ok {σ : Syms} {N0 : Nat} {w0 : World} : PrimOk Try.prog σ N0 w0 148 groupA := by
  have inv : ∀ args s v s', groupA args s = .ok (v, s') → ∃ b g es k l, args = [.map b, .lit (.int .i64 g)] ∧ s.heap.get b = some (.map es k) ∧ fitQ .i64 es k = some l ∧ valsL es = true ∧ noneOf g l = true ∧ 0 ≤ g ∧ g < 100000 ∧ v = .tup [.lit (.bool false), .lit (.bool false)] ∧ s' = s := by
    intro args s v s' h
    unfold groupA at h
    split at h
    · rename_i s1 b g
      replace h := R.bind_ok' h
      obtain ⟨ob, h1, h⟩ := h
      split at h
      · rename_i es k
        split at h
        · rename_i l hl
          cases hv : (valsL es && (noneOf g l && (decide (0 ≤ g) && decide (g < 100000)))) with
          | false => rw [hv] at h; cases h
          | true =>
            rw [hv, cond_true] at h
            cases h
            simp only [Bool.and_eq_true, decide_eq_true_eq] at hv
            exact ⟨b, g, es, k, l, rfl, get_ok h1, hl, hv.1, hv.2.1, hv.2.2.1, hv.2.2.2, rfl, rfl⟩
        · cases h
      · cases h
    · cases h
  refine ⟨fun args s v s' h => ?_, fun args s v s' h ρ w us hw hf hv => ?_⟩
  · obtain ⟨b, g, es, k, l, _, _, _, _, _, _, _, _, rfl⟩ := inv _ _ _ _ h
    exact Abs.refl _
  · obtain ⟨b, g, es, k, l, rfl, g1, g2, g3, g4, g5, g6, rfl, rfl⟩ := inv _ _ _ _ h
    obtain ⟨u1, r1, e1, ⟨L, hL, rfl⟩, u2, r2, e2, ⟨rfl, _⟩, rfl⟩ := hv
    have hus : us = #[.map (some L.blk), .int .i64 g] := by apply Array.toList_inj.1; rw [e1, e2]
    subst hus
    obtain ⟨ms, hm1, hm2⟩ := hw.heap _ _ g1 L hL
    obtain ⟨D0, hown, hperm, hsz, hle⟩ := fitQ_ok (H := Unit) (P := Try.prog) (k := 3) leafR Try.underlying3 g2 hm1 hm2 (valsL_ok g3 hm2)
    have hno : ∀ k : Int, g * 16 ≤ k → k < g * 16 + 16 → Maps.has D0 (.int .i64 k) = false := fun k h1 h2 => by
      cases hq : Maps.has D0 (.int .i64 k) with
      | false => rfl
      | true =>
        exfalso
        obtain ⟨es', rfl, _⟩ := hown.entries law3G
        rw [Maps.has_eq, List.any_eq_true] at hq
        obtain ⟨p, hp, hs⟩ := hq
        have hk : intOf p.1 = k := by
          cases hp1 : p.1 <;> rw [hp1] at hs <;> simp [Lit.sameKey] at hs
          simp [intOf, hs]
        have hmem : k ∈ intKeys (DataW.map es') := by
          show k ∈ es'.map fun p => intOf p.1
          exact List.mem_map.2 ⟨p, hp, hk⟩
        have := List.all_eq_true.1 g4 k (hperm.mem_iff.2 hmem)
        simp only [Bool.or_eq_true, decide_eq_true_eq] at this
        omega
    refine (group_none L.blk es.length g D0 w hown g5 g6 hno).mono fun e w' ⟨he, hb⟩ => ⟨_, ρ, he, ?_, Post.wider hw hb.size hb.block ⟨hb.os, hb.tape, hb.output⟩⟩
    exact ⟨_, rfl, _, _, rfl, ⟨rfl, rfl⟩, _, _, rfl, ⟨rfl, rfl⟩, rfl⟩

/-- One contract, and another one where the first one has no answer. -/
noncomputable def orA (p q : List AVal → AState → R (AVal × AState)) : List AVal → AState → R (AVal × AState) := fun args s => match p args s with
  | .ok r => .ok r
  | .fail _ => q args s

theorem orA_ok {P : Program} {σ : Syms} {N0 : Nat} {w0 : World} {f : FuncId} {p q : List AVal → AState → R (AVal × AState)} (hp : PrimOk P σ N0 w0 f p) (hq : PrimOk P σ N0 w0 f q) : PrimOk P σ N0 w0 f (orA p q) := by
  refine ⟨fun args s v s' h => ?_, fun args s v s' h => ?_⟩
  · unfold orA at h
    split at h
    · rename_i r hr
      cases h
      exact hp.abs _ _ _ _ hr
    · exact hq.abs _ _ _ _ h
  · unfold orA at h
    split at h
    · rename_i r hr
      cases h
      exact hp.sound _ _ _ _ hr
    · exact hq.sound _ _ _ _ h

/-- What the machine itself runs to, as a contract. -/
noncomputable def runA (n f : Nat) (args : List AVal) (s : AState) : R (AVal × AState) := match run Try.prog noPrims noFacts (drawRun Try.prog) n (.call f args) s with
  | .ok (.val v, s1) => .ok (v, s1)
  | _ => .fail "run"

theorem runA_ok {σ : Syms} {N0 : Nat} {w0 : World} {n f : Nat} (hf : plainFn Try.prog f = true) : PrimOk Try.prog σ N0 w0 f (runA n f) := by
  have inv : ∀ args s v s', runA n f args s = .ok (v, s') → run Try.prog noPrims noFacts (drawRun Try.prog) n (.call f args) s = .ok (.val v, s') := by
    intro args s v s' h
    unfold runA at h
    split at h
    · rename_i v1 s1 h1
      cases h
      exact h1
    · cases h
  have hr := run_ok (σ := σ) (N0 := N0) (w0 := w0) (P := Try.prog) (by kernel_rfl) noFacts_ok noPrims_ok n
  refine ⟨fun args s v s' h => hr.abs _ _ _ _ (inv _ _ _ _ h), fun args s v s' h ρ w us hw hfr hv => ?_⟩
  obtain ⟨v1, e1, hc⟩ := hr.call _ _ _ _ _ (inv _ _ _ _ h) hf ρ w us hw hfr hv
  cases e1
  exact hc

noncomputable def groupPrims : Prims := fun f => bif Nat.beq f 148 then some (orA groupA (runA 100000 148)) else none

theorem groupPrims_ok {σ : Syms} {N0 : Nat} {w0 : World} : ∀ f p, groupPrims f = some p → PrimOk Try.prog σ N0 w0 f p := by
  intro f p h
  unfold groupPrims at h
  cases hq : Nat.beq f 148 with
  | false => rw [hq] at h; cases h
  | true =>
    rw [hq, cond_true] at h
    have := Nat.eq_of_beq_eq_true hq
    subst this
    cases h
    exact orA_ok groupA_ok (runA_ok (by kernel_rfl))

end Go.Proofs.Ytibengibhihgpaa
