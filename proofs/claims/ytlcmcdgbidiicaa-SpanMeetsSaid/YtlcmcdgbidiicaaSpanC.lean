/-
  Package span: the pages of one row.
-/
import Derived.Test.YtlcmcdgbidiicaaGrow
import Derived.Lib.SlBy
import Derived.Deep.Cut
namespace Go.Proofs.Ytlcmcdgbidiicaa
open Go Go.RowKit Go.Maps Go.Am
set_option linter.unusedVariables false

theorem law3S : Keyed Try.prog 3 := int_keyed Try.underlying3

theorem keyS {k : Int} (hk : (Lit.int .i64 k).wf = true) : keyOf Try.prog 3 (.int .i64 k) = some (.int .i64 k) := keyOf_int_mk Try.underlying3 hk

theorem boolS (w : World) : (zeroValue 4).run Try.prog w = .ok (.bool false) w := by kernel_rfl

theorem plainElem_boolS {H : Type} {v : Value} {z : DataW H × List MemPlace} (h : plainElem Try.prog 4 v = some z) : ∃ x, v = .bool x ∧ z = (.lit (.bool x), []) := by
  cases v <;> simp [plainElem, Try.underlying4] at h
  exact ⟨_, rfl, h.symm⟩

theorem infoS : (Try.prog.info? 3).map (fun i => (i.zero, i.size, i.bytes)) = some (some (.int .i64 0), 1, 8) := by kernel_rfl

theorem wf_i64 {a : Int} (h0 : 0 ≤ a) (h1 : a < 1000000) : (Lit.int .i64 a).wf = true := by
  simp only [Lit.wf, Bool.and_eq_true, decide_eq_true_eq]
  have hm : IntKind.i64.min = -9223372036854775808 := by decide
  have hM : IntKind.i64.max = 9223372036854775807 := by decide
  rw [hm, hM]
  omega

/-- The pages of a row. -/
def rowOf (p c : Nat) : List Int := (List.range c).map fun k : Nat => ((p + k : Nat) : Int)

theorem rowOf_succ (p c : Nat) : rowOf p (c + 1) = rowOf p c ++ [((p + c : Nat) : Int)] := by simp [rowOf, List.range_succ]

theorem rowOf_len (p c : Nat) : (rowOf p c).length = c := by simp [rowOf]

theorem mem_rowOf {p c : Nat} {x : Int} : x ∈ rowOf p c ↔ (p : Int) ≤ x ∧ x < p + c := by
  unfold rowOf
  rw [List.mem_map]
  constructor
  · rintro ⟨k, hk, rfl⟩; simp at hk; omega
  · rintro ⟨h1, h2⟩; exact ⟨(x - p).toNat, by simp; omega, by omega⟩

theorem GrowBut.of_rowS {a b : World} {o : Option Nat} (h : a.grownBy b o) : GrowBut a b o.toList :=
  ⟨h.os, h.tape, h.output, h.size, fun j hj hn => h.block j hj (fun e => hn (by rw [← e]; simp))⟩

set_option maxRecDepth 100000 in
set_option maxHeartbeats 4000000 in
theorem pages1_calls (S cap p c : Nat) (w : World) (h0 : w.cell? ⟨S, 0, none⟩ = some (.int .i64 p)) (h1 : w.cell? ⟨S, 1, none⟩ = some (.int .i64 c)) (hc : 1 ≤ c) (hc40 : c ≤ 40) (hpc : p + c ≤ 4096) :
    Calls Try.prog 128 #[.slice (some ⟨S, 0, none⟩) 1 cap] w fun r w' => ∃ v, r = .returned (.tuple #[v, .bool true]) ∧ w'.ownsRow w.heap.size 3 1 v c ((rowOf p c).map (Value.int .i64)) ∧ GrowBut w w' [] := by
  obtain ⟨i0, hi, hz0, hz1, hz2⟩ := info_parts infoS
  have hc1 : ¬ (c : Int) < 1 := by omega
  have hc2 : ¬ (40 : Int) < (c : Int) := by omega
  have hp0 : ¬ (p : Int) < 0 := by omega
  have hpc' : ¬ (4096 : Int) - (c : Int) < (p : Int) := by omega
  go_enter Try.func128, Try.ntmps128
  have hmm := @run_makeMap Try.prog
  go_wp2_with go_in
  clear hmm
  have hM0 := World.ownsMap_made w Try.prog 3 (plainElem (H := Unit) Try.prog 4)
  have hG0 := GrowBut.alloc w (.map #[] 0) []
  have hk0 := hG0.cell h0 (by simp)
  have hk1 := hG0.cell h1 (by simp)
  have hSl : S < w.heap.size := by
    by_cases h2 : S < w.heap.size
    · exact h2
    · exfalso
      have h3 : w.heap[S]? = none := Array.getElem?_eq_none (by omega)
      simp [World.cell?, h3] at h0
  have hsz : w.heap.size < (w.alloc (.map #[] 0)).heap.size := by simp
  generalize w.alloc (.map #[] 0) = w1 at hM0 hG0 hk0 hk1 hsz ⊢
  go_loopw [2, 19] (fun v2 v19 wr => (v19 = .int .i64 0 ∧ v2 = .slice none 0 0 ∧ wr = w1) ∨ (v19 = .int .i64 1 ∧ wr.ownsRow w.heap.size 3 1 v2 c ((rowOf p c).map (Value.int .i64)) ∧ GrowBut w wr [])) (fun _ v19 _ => 1 - (match v19 with | .int _ k => k.toNat | _ => 0))
  case atStart => exact .inl ⟨rfl, rfl, rfl⟩
  case round =>
    rcases hrel with ⟨rfl, rfl, rfl⟩ | ⟨rfl, hrow, hG⟩
    · go_wp2_with go_in
      have hb0 : (wr.alloc (.cells #[.int .i64 p, .int .i64 c] 100)).cell? ⟨wr.heap.size, 0, none⟩ = some (.int .i64 p) := by go_simp
      have hb1 : (wr.alloc (.cells #[.int .i64 p, .int .i64 c] 100)).cell? ⟨wr.heap.size, 1, none⟩ = some (.int .i64 c) := by go_simp
      have hM1 := hM0.alloc (.cells #[.int .i64 p, .int .i64 c] 100)
      have hG1 := hG0.trans (GrowBut.alloc wr (.cells #[.int .i64 p, .int .i64 c] 100) [])
      have hsz2 : wr.heap.size < (wr.alloc (.cells #[.int .i64 p, .int .i64 c] 100)).heap.size := by simp
      generalize wr.alloc (.cells #[.int .i64 p, .int .i64 c] 100) = w2 at hb0 hb1 hM1 hG1 hsz2 ⊢
      generalize wr.heap.size = Bx at hb0 hb1 hsz hsz2 ⊢
      generalize hMM : w.heap.size = M at hM1 hsz ⊢
      go_loopw [2, 49] (fun v2 v49 wx => ∃ (k : Nat) (D : DataW Unit), v49 = .int .i64 k ∧ k ≤ c ∧ wx.ownsRow w2.heap.size 3 1 v2 k ((rowOf p k).map (Value.int .i64)) ∧ wx.ownsMap Try.prog 3 (plainElem Try.prog 4) M k D ∧ (∀ x, Maps.has D (.int .i64 x) = decide ((p : Int) ≤ x ∧ x < p + k)) ∧
        wx.cell? ⟨Bx, 0, none⟩ = some (.int .i64 p) ∧ wx.cell? ⟨Bx, 1, none⟩ = some (.int .i64 c) ∧ GrowBut w2 wx [M]) (fun _ v49 _ => c - (match v49 with | .int _ k => k.toNat | _ => 0))
      case atStart => exact ⟨0, .map [], rfl, by omega, World.ownsRow_nil _ _ _ _, hM1, fun x => by (have : ¬ ((p : Int) ≤ x ∧ x < p + (0 : Nat)) := by omega); simp [Maps.has_eq]; try omega, hb0, hb1, .refl _ _⟩
      case round =>
        obtain ⟨k, D, rfl, hk, hrow, hown, hhas, c0, c1, hg⟩ := hrel
        by_cases hlt : k < c
        · have hlt' : (k : Int) < (c : Int) := by omega
          have hwf : (Lit.int .i64 ((p : Int) + k)).wf = true := wf_i64 (by omega) (by omega)
          have hno : Maps.has D (.int .i64 ((p : Int) + k)) = false := by rw [hhas]; simp
          obtain ⟨v, ps, hrun, hv⟩ := hown.lookup law3S Try.underlying182 (boolS _) (plainElem_bool Try.underlying4 false) (keyS hwf)
          rw [atKey_of_not_has hno] at hv
          obtain ⟨y, rfl, hy⟩ := plainElem_boolS hv
          obtain rfl : y = false := by cases hy; rfl
          have hgs := hg.size
          have hkeep : ∀ w3, wr.grownBy w3 (some M) → w3.cell? ⟨Bx, 0, none⟩ = some (.int .i64 p) ∧ w3.cell? ⟨Bx, 1, none⟩ = some (.int .i64 c) ∧ w3.ownsRow w2.heap.size 3 1 u2 k ((rowOf p k).map (Value.int .i64)) ∧ wr.heap.size ≤ w3.heap.size := fun w3 h =>
            ⟨h.cell c0 (by simp; omega), h.cell c1 (by simp; omega), (GrowBut.of_some h).row hrow (fun j hj => by have := (hrow.lt j hj).1; simp; omega), h.size⟩
          go_wp2_with (first
            | (at_mapUpdate; refine wpList_mapUpdate_own _ rfl _ _ _ 182 rfl 3 4 law3S Try.underlying182 (plainElem Try.prog 4) M k D rfl hown (by unfold maxLen; omega) _ _ _ rfl rfl (keyS hwf) _ [] (plainElem_bool Try.underlying4 true) ?_; intro w3 hown3 hg3; obtain ⟨d0, d1, hrow3, hs3⟩ := hkeep w3 hg3)
            | (at_builtin; refine wpList_append_own _ rfl _ _ 57 rfl w2.heap.size 3 i0 (.int .i64 0) 1 8 Try.underlying57 hi hz0 hz1 hz2 rfl (by decide) _ _ _ rfl (hrow3.alloc _) ⟨w3.heap.size, 0, none⟩ 1 1 [.int .i64 ((p : Int) + k)] rfl rfl (cell_one_new _ _ _) (by simp [Value.oneCell']) (by unfold maxLen at *; omega) (by omega) (by simp; omega) ?_; intro v' w4 hown4 hg4 hnil4; go_frame)
            | go_in)
          have hoth : ∀ x ∈ u2.ownBlock.toList, w2.heap.size ≤ x := fun x hx => (hrow3.lt x (by simpa using hx)).1
          have hG4 := (GrowBut.alloc w3 (.cells #[.int .i64 ((p : Int) + k)] 3) _).trans (GrowBut.of_rowS (o := u2.ownBlock) hg4)
          have hMn : M ∉ u2.ownBlock.toList := fun hm => by have := hoth _ hm; omega
          have hBn : Bx ∉ u2.ownBlock.toList := fun hm => by have := hoth _ hm; omega
          refine ⟨⟨k + 1, _, by simp, by omega, by rw [rowOf_succ, List.map_append]; simpa using hown4, hG4.map hown3 hMn, fun x => ?_, hG4.cell d0 hBn, hG4.cell d1 hBn, (hg.trans (.of_some hg3)).from hG4 (fun x hx => .inr (hoth x hx))⟩, by simp; omega⟩
          by_cases hx : x = (p : Int) + k
          · subst hx
            rw [has_put_same hown.isMap (by trivial)]
            simp; omega
          · rw [has_put_other (fun e => hx (by cases e; rfl)), hhas]
            exact decide_eq_decide.2 (by omega)
        · have hge : ¬ (k : Int) < (c : Int) := by omega
          have hkc : k = c := by omega
          subst hkc
          go_wp2_with go_in
          have hGw : GrowBut w wr [] := hG1.from hg (fun x hx => .inr (by simp at hx; omega))
          exact ⟨u2, u3, _, u7, _, .inr ⟨rfl, ⟨hrow.1, by
            rcases hrow.2 with h1 | ⟨g, cap, cur, e1, e2, e3⟩
            · exact .inl h1
            · exact .inr ⟨g, cap, cur, e1, by omega, e3⟩⟩, hGw⟩, rfl, rfl, rfl, rfl, rfl⟩
    · go_wp2_with go_in
      go_ret2
      exact ⟨_, rfl, hrow, hG⟩

set_option maxRecDepth 100000 in
set_option maxHeartbeats 4000000 in
theorem pages0_calls (w : World) : Calls Try.prog 128 #[.slice none 0 0] w fun r w' => r = .returned (.tuple #[.slice none 0 0, .bool false]) ∧ w' = w := by
  go_enter Try.func128, Try.ntmps128
  go_wp2_with go_in
  go_ret2
  exact ⟨rfl, rfl⟩

set_option maxRecDepth 100000 in
set_option maxHeartbeats 4000000 in
theorem Pages1_calls (S cap p c : Nat) (w : World) (h0 : w.cell? ⟨S, 0, none⟩ = some (.int .i64 p)) (h1 : w.cell? ⟨S, 1, none⟩ = some (.int .i64 c)) (hc : 1 ≤ c) (hc40 : c ≤ 40) (hpc : p + c ≤ 4096) :
    Calls Try.prog 75 #[.slice (some ⟨S, 0, none⟩) 1 cap] w fun r w' => ∃ v, r = .returned v ∧ w'.ownsRow w.heap.size 3 1 v c ((rowOf p c).map (Value.int .i64)) ∧ GrowBut w w' [] := by
  have hP := pages1_calls S cap p c w h0 h1 hc hc40 hpc
  go_enter Try.func75, Try.ntmps75
  go_wp2_with (first
    | (go_at_call 128; refine hP.mono ?_; rintro r w1 ⟨v, rfl, hrow, hg⟩)
    | go_in)
  go_ret
  exact ⟨_, rfl, hrow, hg⟩

set_option maxRecDepth 100000 in
set_option maxHeartbeats 4000000 in
theorem Pages0_calls (w : World) : Calls Try.prog 75 #[.slice none 0 0] w fun r w' => r = .returned (.slice none 0 0) ∧ w' = w := by
  have hP := pages0_calls w
  go_enter Try.func75, Try.ntmps75
  go_wp2_with (first
    | (go_at_call 128; refine hP.mono ?_; rintro r w1 ⟨rfl, rfl⟩)
    | go_in)
  go_ret
  exact ⟨rfl, rfl⟩

end Go.Proofs.Ytlcmcdgbidiicaa
