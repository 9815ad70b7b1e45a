/-
  graft's begun: it answers true.
-/
import Derived.Test.YtdhnfhhmacjajaaJ4
import Derived.Test.YtdhnfhhmacjajaaJ8
import Derived.Test.YtdhnfhhmacjajaaJ10
import Derived.KernelRfl
import Derived.Test.YtdhnfhhmacjajaaProg
import Derived.Test.YtdhnfhhmacjajaaRows
import Derived.WalkKit
import Derived.ProofKit
import Derived.OpenShut
import Derived.ShutString
import Derived.WideKeyArr2
import Derived.ChangeSlices
import Derived.ChangeOld
import Derived.Carry

namespace Go.Proofs.Ytdhnfhhmacjajaa
open Go Go.RowKit Go.Am Go.Proofs.Ytdhnfhhmacjajaa.graftNone
set_option linter.unusedVariables false
set_option linter.unusedSimpArgs false

theorem graft_begun (w : World) : Calls Try.prog 9 #[] w fun e w' => e = .returned (.bool true) ∧ GrowBut w w' [] := by
  have hm : Try.prog.follows .mixedOrders = true := by kernel_rfl
  have hb : Try.f9.body = some (seqs pre post) := by kernel_rfl
  have hnt : Try.f9.ntmps = 95 := by kernel_rfl
  have hM : st1.next ≤ 1000000 := by
    have : Nat.ble st1.next 1000000 = true := by kernel_rfl
    exact Nat.le_of_ble_eq_true this
  have h2 := second
  unfold secondOk at h2
  split at h2
  · rename_i a s hrun
    split at h2
    · rename_i hres
      have hcall : CallTo 1000000 Try.prog (fun _ => (.i64, 0)) w.heap.size w 9 [] st0 (fun v _ => v = .lit (.bool true)) := by
        refine CallTo.body (fn := Try.f9) (body := seqs pre post) (t := .leaf) Try.func9 hb ⟨by kernel_rfl, by kernel_rfl⟩ (fun j => by simp) ?_
        rw [hnt]
        refine prefix_to hm noFacts_ok groupPrims_ok hM ?_ pre 100000 _ st0 first
        exact CodeTo.of_run (run_ok hm noFacts_ok groupPrims_ok 100000) hrun (Nat.le_of_ble_eq_true h2) ⟨.inr rfl, _, hres, rfl⟩
      refine (CallTo.calls ⟨rfl, rfl, rfl⟩ hcall).mono fun e w' ⟨v, u, ρ', ⟨_, hv⟩, he, hu, hbl⟩ => ?_
      subst hv
      obtain ⟨rfl, _⟩ := hu
      exact ⟨he, .of_below hbl⟩
    · cases h2
  · cases h2

end Go.Proofs.Ytdhnfhhmacjajaa


/-
  GraftOrder: the walk.
-/
namespace Go.Proofs.Ytdhnfhhmacjajaa
open Go Go.RowKit Go.Maps Go.Am Go.Shelf
set_option linter.unusedVariables false
set_option linter.unusedSimpArgs false

set_option maxRecDepth 100000 in
set_option maxHeartbeats 16000000 in
theorem order_walk (zs ys : List Int) (p q : Option Addr) (c1 c2 : Nat) (tu : Nat) (w : World) (hz : CameU w p zs) (hy : CameU w q ys) (htu : tu < 256) :
    Calls Try.prog 6 #[.slice p zs.length c1, .int .u8 tu, .slice q ys.length c2] w fun e w' => e = .returned (.bool true) ∧ GrowBut w w' [] := by
  have hB := graft_begun w
  by_cases h20 : 20 < zs.length
  · have b1 : decide ((20 : Int) < (zs.length : Int)) = true := decide_eq_true (by omega)
    have b2 : decide (20 < zs.length) = true := decide_eq_true h20
    go_enter Try.func6, Try.ntmps6
    go_wp2_with (first
      | (go_at_call 9; refine hB.mono ?_; rintro e w1 ⟨rfl, hg1⟩)
      | go_in)
    go_ret
    exact ⟨rfl, hg1⟩
  have b1 : decide ((20 : Int) < (zs.length : Int)) = false := decide_eq_false (by omega)
  have b2 : decide (20 < zs.length) = false := decide_eq_false h20
  by_cases h10 : 10 < ys.length
  · have b3 : decide ((10 : Int) < (ys.length : Int)) = true := decide_eq_true (by omega)
    have b4 : decide (10 < ys.length) = true := decide_eq_true h10
    go_enter Try.func6, Try.ntmps6
    go_wp2_with (first
      | (go_at_call 9; refine hB.mono ?_; rintro e w1 ⟨rfl, hg1⟩)
      | go_in)
    go_ret
    exact ⟨rfl, hg1⟩
  have b3 : decide ((10 : Int) < (ys.length : Int)) = false := decide_eq_false (by omega)
  have b4 : decide (10 < ys.length) = false := decide_eq_false h10
  have hm0 : ∀ w1, _ := fun w1 => ramNew 200 100 w1 (by omega) (by omega)
  have hs0 : ∀ w1, _ := fun w1 => stockNew 0 30 w1 (by omega) (by omega)
  go_enter Try.func6, Try.ntmps6
  go_upto_region 11 with (first
    | (go_at_call 9; refine hB.mono ?_; clear hB; rintro e w1 ⟨rfl, hg1⟩; have hmA := hm0 w1)
    | (go_at_call 10; refine hmA.mono ?_; clear hmA; rintro e w2 ⟨M, L, rfl, hR2, hM2, hL2, hg2⟩; have hsl2 := hR2.lt; have hsA := hs0 w2)
    | (go_at_call 11; refine hsA.mono ?_; clear hsA; rintro e w3 ⟨S, T, rfl, hS3, hS3l, hT3l, hg3⟩; have hsl3 := hS3.lt; have hmB := hm0 w3)
    | (go_at_call 10; refine hmB.mono ?_; clear hmB; rintro e w4 ⟨M', L', rfl, hR4, hM4, hL4, hg4⟩; have hsl4 := hR4.lt; have hsB := hs0 w4)
    | (go_at_call 11; refine hsB.mono ?_; clear hsB; rintro e w5 ⟨S', T', rfl, hS5, hS5l, hT5l, hg5⟩; have hsl5 := hS5.lt; have hNA := newG M L S T 200 100 0 30 _ [L', T'] w5 (((hR2.kept hg3 (by simp) (by simp)).kept hg4 (by simp) (by simp)).kept hg5 (by simp) (by simp)) ((hS3.kept hg4 (by simp) (by simp)).kept hg5 (by simp) (by simp)) (by omega) (by omega) (by have := hg5.size; simp; omega) (by omega) (by omega))
    | (go_at_call 12; refine hNA.mono ?_; clear hNA; rintro e w6 ⟨A, rfl, hA1, hA2, hA3, hA4, hA5, hA6, hA7, hA8, hlt, hlm, hle, hG6, hg6⟩; have hNR := newG M' L' S' T' 200 100 0 30 _ A.bl w6 ((hR4.kept hg5 (by simp) (by simp)).kept hg6 (by simp; omega) (by simp; omega)) (hS5.kept hg6 (by simp; omega) (by simp; omega)) (by omega) (by omega) (fun x hx => hG6.lt x (A.bl_all x hx)) (by omega) (by omega))
    | (go_at_call 12; refine hNR.mono ?_; clear hNR; rintro e w7 ⟨R, rfl, hB1, hB2, hB3, hB4, hB5, hB6, hB7, hB8, klt, klm, kle, hG7, hg7⟩)
    | go_in)
  have z1 := hg1.size
  have z6 := hg6.size
  have hTw : TwoG w w7 A R 0 (ownF (zs.take 0)) (ownF (rotL zs tu 0)) := by
    have e0 : ownF (zs.take 0) = noneL := by funext x; simp [ownF, noneL]
    have e1 : ownF (rotL zs tu 0) = noneL := by funext x; simp [ownF, noneL, rotL]
    rw [e0, e1]
    have hl7 := hG7.lt
    have hrange : ∀ x ∈ A.bl, w.heap.size ≤ x := fun x hx => by
      simp only [GA.bl, List.mem_cons, List.not_mem_nil, or_false] at hx
      rcases hx with rfl | rfl | rfl | rfl | rfl <;> omega
    have hrange2 : ∀ x ∈ R.bl, w.heap.size ≤ x := fun x hx => by
      simp only [GA.bl, List.mem_cons, List.not_mem_nil, or_false] at hx
      rcases hx with rfl | rfl | rfl | rfl | rfl <;> omega
    refine ⟨hG6.widen hg7 (fun x hx => hx) (fun x hx => ?_) (fun x hx => ⟨?_, hl7 x (R.bl_all x hx)⟩), hG7, fun x hx hx2 => ?_, fun x hx hx2 => ?_, hrange, hrange2, ?_⟩
    · have h6 := hG6.lt x hx
      simp only [GA.all, List.mem_cons, List.not_mem_nil, or_false] at hx ⊢
      rintro (h | h) <;> rcases hx with h1 | h1 | h1 | h1 | h1 | h1 | h1 <;> omega
    · simp only [GA.bl, List.mem_cons, List.not_mem_nil, or_false] at hx ⊢
      rcases hx with rfl | rfl | rfl | rfl | rfl
      · exact .inl klt
      · exact .inr (.inl hB2)
      · exact .inr (.inr hB4)
      · exact .inl klm
      · exact .inl kle
    · have h6 := hG6.lt x hx
      simp only [GA.all, GA.bl, List.mem_cons, List.not_mem_nil, or_false] at hx hx2
      rcases hx2 with h | h | h | h | h <;> rcases hx with h1 | h1 | h1 | h1 | h1 | h1 | h1 <;> omega
    · have h6 : ∀ y ∈ A.all, y < w6.heap.size := hG6.lt
      have h61 := h6 x (A.bl_all x hx2)
      simp only [GA.all, GA.bl, List.mem_cons, List.not_mem_nil, or_false] at hx hx2
      rcases hx2 with h | h | h | h | h <;> rcases hx with h1 | h1 | h1 | h1 | h1 | h1 | h1 <;> omega
    · exact ((((((hg1.trans hg2).trans hg3).trans hg4).trans hg5).from hg6 (fun x hx => .inr (by simp at hx; omega))).from hg7 (fun x hx => .inr (by simp at hx; omega)))
  have hAn : HideG (A.n = 30 ∧ R.n = 30 ∧ A.S = S ∧ R.S = S') := ⟨hA8, hB8, hA3, hB3⟩
  clear hA1 hA2 hA3 hA4 hA5 hA6 hA7 hA8 hB1 hB2 hB3 hB4 hB5 hB6 hB7 hB8 hlt hlm hle klt klm kle hG6 hG7 hg6 hg7 hg1 hg2 hg3 hg4 hg5 hR2 hR4 hS3 hS5 hM2 hL2 hM4 hL4 hS3l hT3l hS5l hT5l hsl2 hsl3 hsl4 hsl5 hm0 hs0 z1 z6 b1 b2 b3 b4
  go_wp2_with fail
  go_loopw [15] (fun v15 wx => ∃ i k : Nat, v15 = .int .i64 i ∧ i ≤ zs.length ∧ k ≤ 10 * i ∧ TwoG w wx A R k (ownF (zs.take i)) (ownF (rotL zs tu i))) (fun v15 _ => zs.length - natOf v15)
  case atStart => exact ⟨0, 0, rfl, by omega, by omega, hTw⟩
  case round =>
    obtain ⟨i, k, rfl, hi, hk, hT⟩ := hrel
    by_cases hlt : i < zs.length
    · have hqi : (i + tu) % zs.length < zs.length := Nat.mod_lt _ (by omega)
      obtain ⟨g, off, rfl, cz, pz0, pz1⟩ := hz.get hT.g hlt
      obtain ⟨g', off', he, cq, q0, q1⟩ := hz.get hT.g hqi
      cases he
      have hlt' : (i : Int) < (zs.length : Int) := by omega
      have hmod : ((i : Int) + (tu : Int)) % (zs.length : Int) = (((i + tu) % zs.length : Nat) : Int) := by push_cast; rfl
      have hw1 := IntWalk.i64_in ((i : Int) + (tu : Int)) (by omega)
      have hw2 := IntWalk.i64_in (tu : Int) (by omega)
      have hw3 := IntWalk.i64_in (zs.getD i 0) (by omega)
      have hw4 := IntWalk.i64_in (zs.getD ((i + tu) % zs.length) 0) (by omega)
      have hqi' : (((i + tu) % zs.length : Nat) : Int) < (zs.length : Int) := by omega
      have eF : ownF (zs.take (i + 1)) = putL (ownF (zs.take i)) (zs.getD i 0) (zs.getD i 0 % 200, 3) := by rw [ownF_put, take_snocG hlt]
      have eG : ownF (rotL zs tu (i + 1)) = putL (ownF (rotL zs tu i)) (zs.getD ((i + tu) % zs.length) 0) (zs.getD ((i + tu) % zs.length) 0 % 200, 3) := by rw [ownF_put, rotL_succ]
      have lF := ownF_low (l := zs.take i) (fun x hx => hz.rng x (List.mem_of_mem_take hx))
      have lG := ownF_low (l := rotL zs tu i) (fun x hx => by
        obtain ⟨j, hj, rfl⟩ := List.mem_map.1 hx
        exact hz.rng _ (mem_getD (Nat.mod_lt _ (by omega))))
      generalize ownF (zs.take i) = F at hT eF lF
      generalize ownF (rotL zs tu i) = G at hT eG lG
      generalize hX : zs.getD i 0 = x at cz pz0 pz1 hw3 eF
      generalize hY : zs.getD ((i + tu) % zs.length) 0 = y at cq q0 q1 hw4 eG
      generalize (i + tu) % zs.length = qi at hmod hqi cq hqi'
      clear hX hY
      go_upto_region 14 with fail
      go_quiet (fail)
      have hT0 : ∀ m, TwoG w (wr.drewN m) A R k F G := fun m => hT.keep0 (GrowBut.drewN wr m [])
      have mA : MayL x (x % 200, 3) := ⟨pz0, by omega, by show 0 ≤ x % 200; omega, by show x % 200 < 240; omega, by show (1 : Int) ≤ 3; decide, by show (3 : Int) ≤ 7; decide⟩
      have mR : MayL y (y % 200, 3) := ⟨q0, by omega, by show 0 ≤ y % 200; omega, by show y % 200 < 240; omega, by show (1 : Int) ≤ 3; decide, by show (3 : Int) ≤ 7; decide⟩
      have rA : tabsN (putL F x (x % 200, 3)) ≤ A.n := by have := tabs_low (put_low lF (p := x) (l := (x % 200, 3)) ⟨pz0, pz1⟩); have := hAn.out.1; omega
      have rR : tabsN (putL G y (y % 200, 3)) ≤ R.n := by have := tabs_low (put_low lG (p := y) (l := (y % 200, 3)) ⟨q0, q1⟩); have := hAn.out.2.1; omega
      have hSA := fun m => (hT0 m).setA (by omega) mA rA
      have hend : ∀ (w9 : World) (k' : Nat), k' ≤ 10 * (i + 1) → TwoG w w9 A R k' (putL F x (x % 200, 3)) (putL G y (y % 200, 3)) →
          (∃ i_1 k_1 : Nat, Value.int .i64 ((i : Int) + 1) = .int .i64 i_1 ∧ i_1 ≤ zs.length ∧ k_1 ≤ 10 * i_1 ∧ TwoG w w9 A R k_1 (ownF (zs.take i_1)) (ownF (rotL zs tu i_1))) ∧ zs.length - natOf (.int .i64 ((i : Int) + 1)) < zs.length - natOf (.int .i64 (i : Int)) := fun w9 k' h1 h2 =>
        ⟨⟨i + 1, k', by simp, by omega, h1, by rw [eF, eG]; exact h2⟩, by simp [natOf]; omega⟩
      clear eF eG hT hT0 hTw cz cq hmod
      unfold leafV at hSA
      simp only at hSA
      by_cases hb : i < ys.length
      · have hb' : (i : Int) < (ys.length : Int) := by omega
        obtain ⟨gy, oy, rfl, cy, y0, y1⟩ := hy.get (w := w) (.refl _ _) hb
        generalize ys.getD i 0 = v at cy y0 y1
        have hv1 := IntWalk.i64_in v (by omega)
        have hv2 := IntWalk.i64_in (5 * v) (by omega)
        have hv3 := IntWalk.i64_in (300 + 5 * v) (by omega)
        have hGx : G (300 + 5 * v) = none := by
          cases h : G (300 + 5 * v) with
          | none => rfl
          | some l => have := lG _ l h; omega
        have mX : MayL (300 + 5 * v) (1, 1) := ⟨by omega, by omega, by decide, by decide, by decide, by decide⟩
        have m7 : MayL y (7, 1) := ⟨q0, by omega, by decide, by decide, by decide, by decide⟩
        have rX : tabsN (putL G (300 + 5 * v) (1, 1)) ≤ R.n := by have := tabs_low lG; have := tabs_put_le G (300 + 5 * v) (1, 1); have := hAn.out.2.1; omega
        have hdp := del_put (F := G) (p := 300 + 5 * v) (1, 1) hGx
        have rC : tabsN (delL (putL G (300 + 5 * v) (1, 1)) (300 + 5 * v)) ≤ R.n := by rw [hdp]; have := tabs_low lG; have := hAn.out.2.1; omega
        have r7 : tabsN (putL G y (7, 1)) ≤ R.n := by have := tabs_low (put_low lG (p := y) (l := (7, 1)) ⟨q0, q1⟩); have := hAn.out.2.1; omega
        have hpp := put_put G y (7, 1) (y % 200, 3)
        have hxp : 0 ≤ 300 + 5 * v ∧ 300 + 5 * v < 4096 := by omega
        generalize hXX : 300 + 5 * v = xx at *
        go_wp2_with (first
          | (go_at_call 16; refine (hSA _).mono ?_; clear hSA; rintro e w2 ⟨rfl, hT2⟩; have cy2 := hT2.g.cell cy (by simp); have hSX := hT2.setR (by omega) mX rX)
          | (go_at_call 16; refine hSX.mono ?_; clear hSX; rintro e w3 ⟨rfl, hT3⟩; have hCX := hT3.cutR (by omega) hxp (by rw [put_same]; rfl) rC; rw [hdp] at hCX)
          | (go_at_call 14; refine hCX.mono ?_; clear hCX; rintro e w4 ⟨rfl, hT4⟩; have hS7 := hT4.setR (by omega) m7 r7)
          | (go_at_call 16; refine hS7.mono ?_; clear hS7; rintro e w5 ⟨rfl, hT5⟩; have hS9 := hT5.setR (by omega) mR (by rw [hpp]; exact rR); rw [hpp] at hS9)
          | (go_at_call 16; refine hS9.mono ?_; clear hS9; rintro e w6 ⟨rfl, hT6⟩)
          | go_in)
        exact hend _ _ (by omega) hT6
      · have hb' : ¬ (i : Int) < (ys.length : Int) := by omega
        go_wp2_with (first
          | (go_at_call 16; refine (hSA _).mono ?_; clear hSA; rintro e w2 ⟨rfl, hT2⟩; have hS9 := hT2.setR (by omega) mR rR)
          | (go_at_call 16; refine hS9.mono ?_; clear hS9; rintro e w6 ⟨rfl, hT6⟩)
          | go_in)
        exact hend _ _ (by omega) hT6
    · have hil : i = zs.length := by omega
      subst hil
      have hge : ¬ ((zs.length : Nat) : Int) < ((zs.length : Nat) : Int) := by omega
      rw [List.take_length, ownF_congr (l := rotL zs tu zs.length) (l' := zs) (fun x => rotL_mem x)] at hT
      generalize ownF zs = F at hT
      have hAl := allRow A R.bl k F wr hT.a
      have hFok := hT.a.ok
      have hmem : ∀ x ∈ allP F, (Lit.int .i64 x).wf = true := fun x hx => by
        obtain ⟨l, hl⟩ := Option.isSome_iff_exists.1 ((mem_allP hFok).1 hx)
        have := hFok.rng x l hl
        exact wfI (by omega) (by omega)
      have hLb := allP_len F
      generalize hLL : allP F = LL at hAl hmem hLb
      have hlr : ∀ (w2 : World), GrAt w2 R A.bl k F → Calls Try.prog 26 #[.pointer (some ⟨R.t, 0, none⟩)] w2 _ := fun w2 h2 => allRow R A.bl k F w2 h2
      rw [hLL] at hlr
      clear hLL hTw
      go_upto_region 26 with (first
        | (go_at_call 26; refine hAl.mono ?_; clear hAl; rintro e w2 ⟨v2, rfl, ⟨s2, d2, rfl, hc2⟩, hg2⟩; have hAr := hlr w2 (hT.keep0 hg2).r)
        | (go_at_call 26; refine hAr.mono ?_; clear hAr; rintro e w3 ⟨v3, rfl, ⟨s3, d3, rfl, hc3⟩, hg3⟩; have hT3 := (hT.keep0 hg2).keep0 hg3; have hTa := tablesLen A R.bl k F w3 hT3.a)
        | (go_at_call 21; refine hTa.mono ?_; clear hTa; rintro e w4 ⟨s4, d4, rfl, hg4⟩; have hT4 := hT3.keep0 hg4; have hTb := tablesLen R A.bl k F w4 hT4.r)
        | (go_at_call 21; refine hTb.mono ?_; clear hTb; rintro e w5 ⟨s5, d5, rfl, hg5⟩; have hT5 := hT4.keep0 hg5; have hLa := leftG A R.bl k F w5 hT5.a; rw [hAn.out.2.2.1, hAn.out.1] at hLa)
        | (go_at_call 24; refine hLa.mono ?_; clear hLa; rintro e w6 ⟨rfl, hg6⟩; have hT6 := hT5.keep0 hg6; have hLb := leftG R A.bl k F w6 hT6.r; rw [hAn.out.2.2.2, hAn.out.2.1] at hLb)
        | (go_at_call 24; refine hLb.mono ?_; clear hLb; rintro e w7 ⟨rfl, hg7⟩; have hT7 := hT6.keep0 hg7)
        | go_in)
      have hc27 : ∀ w8, GrowBut w7 w8 [] → ∀ j, j < LL.length → ∃ g, s2 = some ⟨g, 0, none⟩ ∧ w8.cell? ⟨g, j, none⟩ = some (.int .i64 (LL.getD j 0)) := fun w8 h8 j hj => by
        obtain ⟨g, h1, h2⟩ := hc2 j hj
        exact ⟨g, h1, (((((hg3.trans hg4).trans hg5).trans hg6).trans hg7).trans h8).cell h2 (by simp)⟩
      have hc37 : ∀ w8, GrowBut w7 w8 [] → ∀ j, j < LL.length → ∃ g, s3 = some ⟨g, 0, none⟩ ∧ w8.cell? ⟨g, j, none⟩ = some (.int .i64 (LL.getD j 0)) := fun w8 h8 j hj => by
        obtain ⟨g, h1, h2⟩ := hc3 j hj
        exact ⟨g, h1, ((((hg4.trans hg5).trans hg6).trans hg7).trans h8).cell h2 (by simp)⟩
      clear hc2 hc3 hg2 hg3 hg4 hg5 hg6 hg7 hT hT3 hT4 hT5 hT6 hlr hFok hge hlt hi
      go_wp2_with fail
      go_loopw [21] (fun v21 wx => ∃ i : Nat, v21 = .int .i64 i ∧ i ≤ LL.length ∧ TwoG w wx A R k F F ∧ GrowBut w7 wx []) (fun v21 _ => LL.length - natOf v21)
      case atStart => exact ⟨0, rfl, by omega, hT7, .refl _ _⟩
      case round =>
        obtain ⟨i, rfl, hi, hT, hG⟩ := hrel
        by_cases hlt : i < LL.length
        · have hlt' : (i : Int) < (LL.length : Int) := by omega
          obtain ⟨g2, rfl, cx⟩ := hc27 wr hG i hlt
          obtain ⟨g3, rfl, cy⟩ := hc37 wr hG i hlt
          have hwx := hmem _ (mem_getD hlt)
          have hGa := getG A R.bl k F (LL.getD i 0) wr hT.a hwx
          generalize LL.getD i 0 = x at cx cy hwx hGa
          have hGr := fun w8 (h8 : TwoG w w8 A R k F F) => getG R A.bl k F x w8 h8.r hwx
          generalize (F x).getD (0, 0) = l at hGa hGr
          generalize (F x).isSome = bs at hGa hGr
          obtain ⟨l1, l2⟩ := l
          unfold leafV at hGa hGr
          simp only at hGa hGr
          clear hc27 hc37 hmem
          go_upto_region 31 with (first
            | (go_at_call 25; refine hGa.mono ?_; clear hGa; rintro e w2 ⟨rfl, hg2⟩; have hTa := (hT.keep0 hg2).keep0 (GrowBut.alloc w2 (.cells #[.int .i64 l1, .int .i64 l2] 39) []); have cx2 := (hg2.trans (GrowBut.alloc w2 (.cells #[.int .i64 l1, .int .i64 l2] 39) [])).cell cx (by simp); have cy2 := (hg2.trans (GrowBut.alloc w2 (.cells #[.int .i64 l1, .int .i64 l2] 39) [])).cell cy (by simp); have ca0 : (w2.alloc (.cells #[.int .i64 l1, .int .i64 l2] 39)).cell? ⟨w2.heap.size, 0, none⟩ = some (.int .i64 l1) := (by go_simp); have ca1 : (w2.alloc (.cells #[.int .i64 l1, .int .i64 l2] 39)).cell? ⟨w2.heap.size, 1, none⟩ = some (.int .i64 l2) := (by go_simp); have hGr2 := hGr _ hTa)
            | (go_at_call 25; refine hGr2.mono ?_; clear hGr2; rintro e w3 ⟨rfl, hg3⟩)
            | go_in)
          have hTb := (hTa.keep0 hg3).keep0 (GrowBut.alloc w3 (.cells #[.int .i64 l1, .int .i64 l2] 39) [])
          have hgg := hg3.trans (GrowBut.alloc w3 (.cells #[.int .i64 l1, .int .i64 l2] 39) [])
          have k0 := hgg.cell cx2 (by simp)
          have k1 := hgg.cell cy2 (by simp)
          have k2 := hgg.cell ca0 (by simp)
          have k3 := hgg.cell ca1 (by simp)
          have k4 : (w3.alloc (.cells #[.int .i64 l1, .int .i64 l2] 39)).cell? ⟨w3.heap.size, 0, none⟩ = some (.int .i64 l1) := by go_simp
          have k5 : (w3.alloc (.cells #[.int .i64 l1, .int .i64 l2] 39)).cell? ⟨w3.heap.size, 1, none⟩ = some (.int .i64 l2) := by go_simp
          have hG9 := ((hG.trans hg2).trans (GrowBut.alloc w2 (.cells #[.int .i64 l1, .int .i64 l2] 39) [])).trans hgg
          clear cx cy cx2 cy2 ca0 ca1 hg2 hg3 hgg hTa hT hG hGr
          generalize (w3.alloc (.cells #[.int .i64 l1, .int .i64 l2] 39)) = w9 at *
          generalize w3.heap.size = B3 at *
          generalize w2.heap.size = B2 at *
          go_quiet (fail)
          go_wp2_with fail
          exact ⟨⟨i + 1, by simp, by omega, hTb.keep0 (GrowBut.drewN _ _ _), hG9.trans (GrowBut.drewN _ _ _)⟩, by simp [natOf]; omega⟩
        · have hil : i = LL.length := by omega
          subst hil
          clear hc27 hc37 hmem
          go_wp2_with fail
          go_ret
          exact ⟨rfl, hT.g⟩

theorem graftOrder_walk (zs : List Int) (p : Option Addr) (c1 : Nat) (tu : Int) (ys : List Int) (q : Option Addr) (c2 : Nat) (w : World) (hz : ∀ i, i < zs.length → ∃ a, p = some a ∧ a.block < w.heap.size ∧ w.cell? (a.add i) = some (.int .u8 (zs.getD i 0))) (hwz : ∀ n ∈ zs, (Lit.int .u8 n).wf = true) (htu : (Lit.int .u8 tu).wf = true)
    (hy : ∀ i, i < ys.length → ∃ a, q = some a ∧ a.block < w.heap.size ∧ w.cell? (a.add i) = some (.int .u8 (ys.getD i 0))) (hwy : ∀ n ∈ ys, (Lit.int .u8 n).wf = true) :
    Calls Try.prog 6 #[.slice p zs.length c1, .int .u8 tu, .slice q ys.length c2] w fun e w' => e = .returned (.bool true) ∧ w.grownBy w' none := by
  have ht := wf_u8 htu
  obtain ⟨t, rfl⟩ : ∃ t : Nat, tu = t := ⟨tu.toNat, by omega⟩
  exact (order_walk zs ys p q c1 c2 t w ⟨ints_at hz, fun x hx => wf_u8 (hwz x hx)⟩ ⟨ints_at hy, fun x hx => wf_u8 (hwy x hx)⟩ (by omega)).mono fun e w' h => ⟨h.1, h.2.keepAll⟩

end Go.Proofs.Ytdhnfhhmacjajaa


/-
  Arguments that come in: arrays of numbers, rows of numbers (for a seat without api.Regs).
-/
namespace Go.Proofs.Ytdhnfhhmacjajaa
open Go Go.ChangeShapes Go.WideShapes Go.ChangeAt Go.RowKit
set_option linter.unusedVariables false
set_option linter.unusedSimpArgs false

theorem laidOut : laidOutB Try.prog = true := by kernel_rfl
theorem ownKnobs : ownKnob Try.prog.godebug = none := by kernel_rfl

/-! ### Arrays of numbers that come in -/
theorem mapM_all {α β : Type} {f : α → Option β} : ∀ {L : List α} {ys : List β}, L.mapM f = some ys → ∀ i ∈ L, ∃ y, f i = some y
  | [], _, _, i, hi => by simp at hi
  | x :: L, ys, h, i, hi => by
    rw [List.mapM_cons] at h
    simp only [bind, Option.bind_eq_some_iff, pure, Option.some.injEq] at h
    obtain ⟨y, hy, zs, hz, _⟩ := h
    rcases List.mem_cons.1 hi with rfl | hi
    · exact ⟨y, hy⟩
    · exact mapM_all hz i hi

theorem all_ints {q : IntKind} : ∀ (l : List Value), (∀ x ∈ l, ∃ a, x = .int q a) → ∃ zs : List Int, l = zs.map (Value.int q ·)
  | [], _ => ⟨[], rfl⟩
  | x :: l, h => by
    obtain ⟨a, rfl⟩ := h x (by simp)
    obtain ⟨zs, rfl⟩ := all_ints l fun y hy => h y (by simp [hy])
    exact ⟨a :: zs, rfl⟩

theorem arr_ints {H : Type} {enc : TypeId × Value → H} {P : Program} {k e : TypeId} {n : Nat} {q : IntKind} {W : World} {base : Nat} {sp : Nat → Bool} {held : Bool} (hu : P.underlying k = some (.array n e)) (he : P.underlying e = some (.int q)) (h1 : P.cellsOf e = 1) (hk : P.cellsOf k = n)
    {xs : Array Value} (hn : xs.size = n) {d : DataW H} {ps : List MemPlace} (hd : DataW.Trod enc P W base sp held k (.agg xs) d ps) : ps = [] ∧ ∃ zs : List Int, xs.toList = zs.map (Value.int q ·) ∧ zs.length = n := by
  obtain ⟨fuel, hf⟩ := hd
  cases fuel with
  | zero => simp [DataW.trod] at hf
  | succ m =>
    rw [DataW.trod_step] at hf
    unfold DataW.trodStep at hf
    simp only [hu, Value.cells] at hf
    rw [if_pos (by rw [hk]; simpa using hn)] at hf
    simp only [Option.map_eq_some_iff] at hf
    obtain ⟨ys, hy, e1⟩ := hf
    obtain ⟨ls, hls, _⟩ := Go.WideMaps.mapM_both (D := 0) he _ ys hy
    simp only [Prod.mk.injEq] at e1
    refine ⟨by rw [← e1.2, hls]; simp [List.flatMap_eq_nil_iff], ?_⟩
    have hall : ∀ x ∈ xs.toList, ∃ a, x = Value.int q a := fun x hx => by
      obtain ⟨i, hi, hxi⟩ := List.getElem_of_mem hx
      have hin : i < n := by rw [← hn]; simpa using hi
      obtain ⟨y, hy'⟩ := mapM_all hy i (by simp [hin])
      obtain ⟨a, ha, _⟩ := DataW.trod_int he hy'
      refine ⟨a, ?_⟩
      rw [h1, Nat.mul_one] at ha
      have : ((xs.toList.drop i).take 1)[0]? = some (Value.int q a) := by rw [ha]; rfl
      rw [List.getElem?_take, if_pos (by omega), List.getElem?_drop, Nat.add_zero, List.getElem?_eq_getElem hi, hxi] at this
      exact Option.some.inj this
    obtain ⟨zs, hz⟩ := all_ints _ hall
    refine ⟨zs, hz, ?_⟩
    have := congrArg List.length hz
    simp at this
    omega

abbrev regs (x0 x1 x2 x3 x4 x5 x6 x7 : Int) : Value := .agg #[.int .u64 x0, .int .u64 x1, .int .u64 x2, .int .u64 x3, .int .u64 x4, .int .u64 x5, .int .u64 x6, .int .u64 x7]

set_option maxRecDepth 100000 in
theorem cell_ltO {w : World} {a : Addr} {v : Value} (h : w.cell? a = some v) : a.block < w.heap.size := by
  by_cases h2 : a.block < w.heap.size
  · exact h2
  · exfalso
    have h3 : w.heap[a.block]? = none := Array.getElem?_eq_none (by omega)
    simp [World.cell?, h3] at h

set_option maxRecDepth 100000 in
theorem slice_ints {H : Type} {enc : TypeId × Value → H} {W : World} {b0 : Nat} {r : Reach} {t e : TypeId} {q : IntKind} {v : Value} {d : DataW H} {ps : List MemPlace} (ht : Try.prog.underlying t = some (.slice e)) (he : Try.prog.underlying e = some (.int q)) (hc : Try.prog.cellsOf e = 1) (hval : Value.okWide Try.prog W r b0 t v)
    (hd : DataW.Trod enc Try.prog W 0 (fun _ => true) true t v d ps) :
    ∃ (zs : List Int) (p : Option Addr) (cap : Nat), v = .slice p zs.length cap ∧ (∀ i, i < zs.length → ∃ a, p = some a ∧ a.block < W.heap.size ∧ W.cell? (a.add i) = some (.int q (zs.getD i 0))) ∧ ∀ n ∈ zs, (Lit.int q n).wf = true := by
  obtain ⟨fuel, hf⟩ := hd
  obtain ⟨a0, len, cap, rfl⟩ := okWide_slice ht hval
  rcases open_ints ht he hc hf with ⟨hcs, hx⟩ | ⟨a, len', cap', zs, hcs, _, hl, hm, hz, hx, hcell, hwz⟩
  · simp [Value.cells] at hcs
    obtain ⟨rfl, rfl, rfl⟩ := hcs
    exact ⟨[], none, 0, rfl, fun i hi => by simp at hi, fun n hn => by simp at hn⟩
  · simp [Value.cells] at hcs
    obtain ⟨rfl, rfl, rfl⟩ := hcs
    simp only [if_true] at hz
    refine ⟨zs.take len, _, cap, by rw [List.length_take, Nat.min_eq_left (by omega)], fun i hi => ?_, fun n hn => hwz n (List.mem_of_mem_take hn)⟩
    rw [List.length_take, Nat.min_eq_left (by omega)] at hi
    have h1 := hcell i (by omega)
    refine ⟨a, rfl, ?_, ?_⟩
    · have : (a.add i).block = a.block := by unfold Addr.add; first | rfl | (split <;> rfl)
      rw [← this]
      exact cell_ltO h1
    · rw [h1, List.getD_eq_getElem?_getD, List.getD_eq_getElem?_getD, List.getElem?_take_of_lt hi]

end Go.Proofs.Ytdhnfhhmacjajaa
