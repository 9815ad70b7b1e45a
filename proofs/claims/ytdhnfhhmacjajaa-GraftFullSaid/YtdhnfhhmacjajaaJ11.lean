/-
  graft's begun: the run behind its first Set.
-/
import Derived.Test.YtdhnfhhmacjajaaJ4
import Derived.Test.YtdhnfhhmacjajaaJ8
import Derived.Test.YtdhnfhhmacjajaaJ10
import Derived.KernelRfl
import Derived.Deep.RegionHeld
import Derived.Test.YtdhnfhhmacjajaaProg
import Derived.Test.YtdhnfhhmacjajaaRows
import Derived.WalkKit
import Derived.ProofKit
import Derived.OpenShut
import Derived.ShutString
import Derived.WideKeyArr2
import Derived.ChangeSlices
import Derived.ChangeOld
import Derived.Carry

namespace Go.Proofs.Ytdhnfhhmacjajaa.graftNone
open Go Go.RowKit Go.Am

theorem second : secondOk = true := by decide +kernel

end Go.Proofs.Ytdhnfhhmacjajaa.graftNone


/-
  graft's begun: it answers true.
-/
namespace Go.Proofs.Ytdhnfhhmacjajaa
open Go Go.RowKit Go.Am Go.Proofs.Ytdhnfhhmacjajaa.graftNone
set_option linter.unusedVariables false
set_option linter.unusedSimpArgs false

theorem graft_begun (w : World) : Calls Try.prog 9 #[] w fun e w' => e = .returned (.bool true) ∧ GrowBut w w' [] := by
  have hm : Try.prog.follows .mixedOrders = true := by kernel_rfl
  have hb : Try.f9.body = some (seqs pre post) := by kernel_rfl
  have hnt : Try.f9.ntmps = 95 := by kernel_rfl
  have hM : st1.next ≤ 1000000 := by
    have : Nat.ble st1.next 1000000 = true := by kernel_rfl
    exact Nat.le_of_ble_eq_true this
  have h2 := second
  unfold secondOk at h2
  split at h2
  · rename_i a s hrun
    split at h2
    · rename_i hres
      have hcall : CallTo 1000000 Try.prog (fun _ => (.i64, 0)) w.heap.size w 9 [] st0 (fun v _ => v = .lit (.bool true)) := by
        refine CallTo.body (fn := Try.f9) (body := seqs pre post) (t := .leaf) Try.func9 hb ⟨by kernel_rfl, by kernel_rfl⟩ (fun j => by simp) ?_
        rw [hnt]
        refine prefix_to hm noFacts_ok groupPrims_ok hM ?_ pre 100000 _ st0 first
        exact CodeTo.of_run (run_ok hm noFacts_ok groupPrims_ok 100000) hrun (Nat.le_of_ble_eq_true h2) ⟨.inr rfl, _, hres, rfl⟩
      refine (CallTo.calls ⟨rfl, rfl, rfl⟩ hcall).mono fun e w' ⟨v, u, ρ', ⟨_, hv⟩, he, hu, hbl⟩ => ?_
      subst hv
      obtain ⟨rfl, _⟩ := hu
      exact ⟨he, .of_below hbl⟩
    · cases h2
  · cases h2

end Go.Proofs.Ytdhnfhhmacjajaa


/-
  GraftFull: the walk.
-/
namespace Go.Proofs.Ytdhnfhhmacjajaa
open Go Go.RowKit Go.Maps Go.Am Go.Shelf
set_option linter.unusedVariables false
set_option linter.unusedSimpArgs false

theorem readRoot (A : GA) (X : List Nat) (k : Nat) (w : World) (h : GrAt w A X k noneL) :
    Calls Try.prog 27 #[.pointer (some ⟨A.M, 0, none⟩), .bool true, .int .i64 A.root, .int .i64 0, .int .i64 128] w fun e w' => ∃ g c, e = .returned (.tuple #[.slice (some ⟨g, 0, none⟩) 128 c, .int .i64 0]) ∧ (∀ i, i < 128 → w'.cell? ⟨g, i, none⟩ = some (.int .u8 0)) ∧ GrowBut w w' [] := by
  obtain ⟨mem, tk, b, nh, nt, MI, EN, ow, hT, h1, h2, h3, h4, h5, h6, h7⟩ := h.tree
  have hMI : ∀ a, MI a = none := fun a => by
    cases e : MI a with
    | none => rfl
    | some f =>
      have := (h1 a).1 (by rw [e]; rfl)
      rw [midsL_none] at this
      cases this
  have hz := frame_zero hT.st.ram.byte A.root (fun a ha => by rw [h4.sr a ha]; unfold rootN; rw [hMI])
  refine (ramRead A.M A.L A.nf A.sec mem A.root w hT.st.ram hT.rt (List.replicate 128 0) (by simp) (fun i hi => by
    rw [hz i hi, List.getD_eq_getElem?_getD, List.getElem?_replicate, if_pos hi]; rfl)).mono ?_
  rintro e w' ⟨v, rfl, hrow, hg⟩
  have hlen : (List.replicate 128 (0 : Int)).length = 128 := by simp
  rw [hlen] at hrow
  rcases hrow.2 with ⟨_, h0⟩ | ⟨g, cap, cur, rfl, hbase, hb, r1, r2, r3, r4⟩
  · omega
  · refine ⟨g, cap, rfl, fun i hi => ?_, hg⟩
    have h5 : (cur.toList.take (128 * 1))[i]? = ((List.replicate 128 (0 : Int)).map (Value.int .u8))[i]? := by rw [r4]
    rw [List.getElem?_take_of_lt (by omega), List.getElem?_map, List.getElem?_replicate, if_pos hi] at h5
    simp only [World.cell?, hb]
    simpa using h5

set_option maxRecDepth 100000 in
set_option maxHeartbeats 16000000 in
theorem full_walk (ta gr : Nat) (w : World) (hta : ta < 256) (hgr : gr < 256) :
    Calls Try.prog 8 #[.int .u8 ta, .int .u8 gr] w fun e w' => e = .returned (.bool true) ∧ GrowBut w w' [] := by
  have hB := graft_begun w
  obtain ⟨n, hn⟩ : ∃ n : Nat, n = 1 + ta % 9 := ⟨_, rfl⟩
  have hn1 : (1 : Int) + (ta : Int) % 9 = (n : Int) := by omega
  have hn2 : 1 ≤ n ∧ n ≤ 9 := by omega
  obtain ⟨kk, hkk⟩ : ∃ kk : Nat, kk = gr % 9 := ⟨_, rfl⟩
  have hk1 : (gr : Int) % 9 = (kk : Int) := by omega
  have hk2 : kk ≤ 8 := by omega
  have ht0 : 0 ≤ (ta : Int) % 9 ∧ (ta : Int) % 9 < 9 := by omega
  have hm0 : ∀ w1, _ := fun w1 => ramNew 60 60 w1 (by omega) (by omega)
  have hs0 : ∀ w1, _ := fun w1 => stockNew 0 n w1 (by omega) (by omega)
  have hw1 := IntWalk.i64_in ((ta : Int) % 9) (by omega)
  have hw2 := IntWalk.i64_in (n : Int) (by omega)
  have hw3 := IntWalk.i64_in (kk : Int) (by omega)
  clear hn hkk
  go_enter Try.func8, Try.ntmps8
  go_upto_region 9 with (first
    | (go_at_call 9; refine hB.mono ?_; rintro e w1 ⟨rfl, hg1⟩)
    | (go_at_call 10; refine (hm0 w1).mono ?_; rintro e w2 ⟨M, L, rfl, hR2, hM2, hL2, hg2⟩; have hsl2 := hR2.lt)
    | (go_at_call 11; refine (hs0 w2).mono ?_; rintro e w3 ⟨S, T, rfl, hS3, hS3l, hT3l, hg3⟩; have hR3 := hR2.kept hg3 (by simp) (by simp); have hN := newG M L S T 60 60 0 n _ [] w3 hR3 hS3 (by omega) (by omega) (by simp) (by omega) (by omega))
    | (go_at_call 12; refine hN.mono ?_; rintro e w4 ⟨A, rfl, hA1, hA2, hA3, hA4, hA5, hA6, hA7, hA8, hlt, hlm, hle, hG4, hg4⟩)
    | go_in)
  have z1 := hg1.size
  have z2 := hg2.size
  have z3 := hg3.size
  have hbl : ∀ x ∈ A.bl, w.heap.size ≤ x := fun x hx => by
    simp only [GA.bl, List.mem_cons, List.not_mem_nil, or_false] at hx
    rcases hx with rfl | rfl | rfl | rfl | rfl <;> omega
  have hgw : GrowBut w w4 [] := ((hg1.trans hg2).trans hg3).from hg4 (fun x hx => .inr (by simp at hx; omega))
  have hnxt : ∀ {a b : World}, GrowBut w a [] → GrowBut a b A.bl → GrowBut w b [] := fun h1 h2 => h1.from h2 (fun x hx => .inr (hbl x hx))
  have hAn : HideG (A.n = n ∧ A.S = S ∧ A.M = M) := ⟨hA8, hA3, hA1⟩
  clear hA1 hA2 hA3 hA4 hA5 hA6 hA7 hA8 hlt hlm hle hg4 hg3 hg2 hg1 hN hR2 hR3 hS3 hM2 hL2 hS3l hT3l hsl2 hbl hB hm0 hs0 z1 z2 z3 hn1 hk1 ht0 hw1
  go_wp2_with fail
  rw [show noneL = rowL 0 0 from (rowL_self 0).symm] at hG4
  go_loopw [11, 12] (fun v11 v12 wx => ∃ i h : Nat, v12 = .int .i64 i ∧ v11 = .int .i64 h ∧ i ≤ kk ∧ h ≤ i ∧ h ≤ n - 2 ∧ (h < n - 2 → h = i) ∧ GrAt wx A [] i (rowL 0 h) ∧ GrowBut w wx []) (fun _ v12 _ => kk - natOf v12)
  case atStart => exact ⟨0, 0, rfl, rfl, by omega, by omega, by omega, fun _ => rfl, hG4, hgw⟩
  case round =>
    obtain ⟨i, h, rfl, rfl, hi, hhi, hhn, hheq, hG, hgr⟩ := hrel
    by_cases hlt : i < kk
    · have hlt' : (i : Int) < (kk : Int) := by omega
      have hwi := IntWalk.i64_in (16 * (i : Int)) (by omega)
      have hwj := IntWalk.i64_in (2 + (i : Int)) (by omega)
      have hwk := IntWalk.i64_in (2 + (i : Int) + 1) (by omega)
      have hS := setG A [] i (rowL 0 h) (16 * (i : Int)) (50, 1) wr hG (by omega) ⟨by omega, by omega, by decide, by decide, by decide, by decide⟩
      have ht := rowL_more (h := h) (i := i) hhi (by omega)
      have hAn1 := hAn.out.1
      unfold orE orL at hS
      rw [ht] at hS
      by_cases hr : 3 + h ≤ n
      · have hih : h = i := hheq (by omega)
        subst hih
        rw [if_pos (by omega), if_pos (by omega), rowL_put (by omega)] at hS
        have c1 : decide ((n : Int) < 2 + (h : Int) + 1) = false := decide_eq_false (by omega)
        have hwh := IntWalk.i64_in ((h : Int) + 1) (by omega)
        unfold leafV at hS
        simp only at hS
        clear hG ht hheq hAn1 hhi
        go_wp2_with (first
          | (go_at_call 16; refine hS.mono ?_; rintro e w5 ⟨rfl, hG5, hg5⟩)
          | go_in)
        exact ⟨⟨h + 1, h + 1, by simp, by simp, by omega, by omega, by omega, fun _ => rfl, hG5, hnxt hgr hg5⟩, by simp [natOf]; omega⟩
      · rw [if_neg (by omega), if_neg (by omega)] at hS
        have c1 : decide ((n : Int) < 2 + (i : Int) + 1) = true := decide_eq_true (by omega)
        unfold leafV at hS
        simp only at hS
        have hh2 : ¬ h < n - 2 := by omega
        clear hG ht hheq hAn1
        go_wp2_with (first
          | (go_at_call 16; refine hS.mono ?_; rintro e w5 ⟨rfl, hG5, hg5⟩)
          | go_in)
        exact ⟨⟨i + 1, h, by simp, rfl, by omega, by omega, hhn, fun h9 => absurd h9 hh2, hG5, hnxt hgr hg5⟩, by simp [natOf]; omega⟩
    · have hik : i = kk := by omega
      subst hik
      have hge : ¬ ((i : Nat) : Int) < ((i : Nat) : Int) := by omega
      clear hheq hG4 hgw
      rcases Nat.eq_zero_or_pos h with h0 | h0
      · have hu : tabsN (rowL 0 h) = 1 := by rw [rowL_tabs 0 h (by omega) (by omega), if_neg (by omega)]
        have hu' : HideG (tabsN (rowL 0 h) = 1) := hu
        have c3 : ¬ (0 : Int) < (h : Int) := by omega
        have c4 : (h : Int) ≤ 0 := by omega
        have hAn1 := hAn.out.1
        have hroom := hG.room
        rw [hAn1] at hroom
        have hTl := tablesLen A [] i (rowL 0 h) wr hG
        rw [hu] at hTl hroom
        have hwn := IntWalk.i64_in ((n : Int) - ((1 : Nat) : Int)) (by omega)
        have hall := rowL_all h (by omega)
        clear hAn1 hu
        go_upto_region 25 with (first
          | (go_at_call 21; refine hTl.mono ?_; clear hTl; rintro e w5 ⟨s5, d5, rfl, hg5⟩; have hG5 := hG.keep0 hg5; have hAl := allLen A [] i (rowL 0 h) w5 hG5; rw [hall] at hAl)
          | (go_at_call 26; refine hAl.mono ?_; clear hAl; rintro e w6 ⟨s6, d6, rfl, hg6⟩; have hG6 := hG5.keep0 hg6; have hLf := leftG A [] i (rowL 0 h) w6 hG6; rw [hAn.out.2.1, hAn.out.1, hu'.out] at hLf)
          | (go_at_call 24; refine hLf.mono ?_; clear hLf; rintro e w7 ⟨rfl, hg7⟩; have hG7 := hG6.keep0 hg7)
          | go_in)
        have hgr7 := ((hgr.trans hg5).trans hg6).trans hg7
        clear hG hgr hG5 hG6 hg5 hg6 hg7 hall
        go_wp2_with fail
        go_loopw [15] (fun v15 wx => ∃ j : Nat, v15 = .int .i64 j ∧ j ≤ h ∧ GrAt wx A [] (i + j) (rowL j h) ∧ GrowBut w wx []) (fun v15 _ => h - natOf v15)
        case atStart => exact ⟨0, rfl, by omega, hG7, hgr7⟩
        case round =>
          obtain ⟨j, rfl, hj, hG, hgr⟩ := hrel
          by_cases hlj : j < h
          · have hlj' : (j : Int) < (h : Int) := by omega
            have hwi := IntWalk.i64_in (16 * (j : Int)) (by omega)
            have hC := cutG A [] (i + j) (rowL j h) (16 * (j : Int)) wr hG (by omega) ⟨by omega, by omega⟩
            have hsome : (rowL j h (16 * (j : Int))).isSome = true := by unfold rowL; rw [if_pos (by omega)]; rfl
            have ht1 := rowL_tabs (j + 1) h (by omega) (by omega)
            have ht2 := hG.room
            have ht3 := rowL_tabs j h (by omega) (by omega)
            have hr : tabsN (rowL (j + 1) h) ≤ A.n := by
              rw [if_pos hlj] at ht3
              split at ht1 <;> omega
            unfold cutE cutF at hC
            rw [if_pos hsome, if_pos hsome, rowL_cut hlj, orE_ok hr, orL_ok hr] at hC
            clear hG ht1 ht2 ht3 hr hsome hG7
            go_wp2_with (first
              | (go_at_call 14; refine hC.mono ?_; rintro e w8 ⟨rfl, hG8, hg8⟩)
              | go_in)
            all_goals exact ⟨⟨j + 1, by simp, by omega, hG8, hnxt hgr hg8⟩, by simp [natOf]; omega⟩
          · have hjh : j = h := by omega
            subst hjh
            rw [rowL_self] at hG
            have hge2 : ¬ ((j : Nat) : Int) < ((j : Nat) : Int) := by omega
            have hRo := rootG A [] _ noneL wr hG
            have hRd := readRoot A [] _ wr hG
            rw [hAn.out.2.2] at hRd
            clear hG7 hgr7 hge
            go_upto_region 31 with (first
              | (go_at_call 23; refine hRo.mono ?_; rintro e w8 ⟨rfl, hww⟩; rw [hww]; clear hww w8)
              | (go_at_call 27; refine hRd.mono ?_; clear hRd; rintro e w8 ⟨gb, cb, rfl, hcb, hg8⟩; have hG8 := hG.keep0 hg8; have hgr8 := hgr.trans hg8)
              | fail)
            have hTz := tablesLen A [] (i + j) noneL
            have hLz := leftG A [] (i + j) noneL
            rw [tabsN_none] at hTz
            rw [hAn.out.2.1, hAn.out.1, tabsN_none] at hLz
            have hwn1 := IntWalk.i64_in ((n : Int) - 1) (by omega)
            obtain ⟨s0, hs0⟩ : ∃ s0, s0 = strOfNums (List.replicate 128 (0 : Int)) := ⟨_, rfl⟩
            have hcv : ∀ w9, GrowBut w8 w9 [] → (convert 49 9 (.slice (some ⟨gb, 0, none⟩) 128 cb)).run Try.prog w9 = .ok (.string s0) w9 := fun w9 hg9 => by
              rw [hs0]
              refine run_convert_bytes_arg (P := Try.prog) (w := w9) 49 5 Try.underlying49 Try.underlying5 gb 0 128 cb (List.replicate 128 0) (by simp) (fun q hq => ?_) 9 Try.underlying9
              rw [Nat.zero_add, List.getD_eq_getElem?_getD, List.getElem?_replicate, if_pos hq]
              exact hg9.cell (hcb q hq) (by simp)
            obtain ⟨Ar, hAr, hMk⟩ := make_row (t := 49) (e := 5) (c := .int .u8 0) (k := 1) Try.underlying49 (by omega) (by kernel_rfl) 128 (by omega)
            have hgN := (GrowBut.alloc w8 (.cells Ar 5) []).trans (GrowBut.drew _ [])
            have hcn : (convert 49 9 (.slice (some ⟨w8.heap.size, 0, none⟩) 128 128)).run Try.prog (w8.alloc (.cells Ar 5)).drew = .ok (.string s0) (w8.alloc (.cells Ar 5)).drew := by
              rw [hs0]
              refine run_convert_bytes_arg (P := Try.prog) (w := (w8.alloc (.cells Ar 5)).drew) 49 5 Try.underlying49 Try.underlying5 w8.heap.size 0 128 128 (List.replicate 128 0) (by simp) (fun q hq => ?_) 9 Try.underlying9
              rw [Nat.zero_add, List.getD_eq_getElem?_getD, List.getElem?_replicate, if_pos hq]
              have hc : (w8.alloc (.cells Ar 5)).cell? ⟨w8.heap.size, q, none⟩ = some (.int .u8 0) := by
                rw [World.cell?_alloc_new]
                exact hAr q (by omega)
              exact hc
            simp only [Int.cast_ofNat_Int] at hMk
            have k0 := hcv w8.drew (GrowBut.drew _ _)
            have k1 := hcv _ hgN
            have hG9 := hG8.keep0 hgN
            clear hcb hs0 hAr hRo
            go_region_held (fun w' => (convert 49 9 (.slice (some ⟨gb, 0, none⟩) 128 cb)).run Try.prog w' = .ok (.string s0) w') (first | go_keep | (exact k1) | (exact k2) | (exact k3))
              (first
                | (go_at_call 21; refine (hTz _ hG9).mono ?_; rintro e w10 ⟨s10, d10, rfl, hg10⟩; have hgX := hgN.trans hg10; have k2 := hcv w10 hgX; have hG10 := hG9.keep0 hg10)
                | (go_at_call 24; refine (hLz _ hG10).mono ?_; rintro e w11 ⟨rfl, hg11⟩; have hgY := hgX.trans hg11; have k3 := hcv w11 hgY)
                | fail)
            go_wp2_with fail
            go_ret
            exact ⟨rfl, hgr8.trans hgY⟩
      · have hu : tabsN (rowL 0 h) = 2 + h := by rw [rowL_tabs 0 h (by omega) (by omega), if_pos h0]; omega
        have hu' : HideG (tabsN (rowL 0 h) = 2 + h) := hu
        have c3 : (0 : Int) < (h : Int) := by omega
        have hwu := IntWalk.i64_in (2 + (h : Int)) (by omega)
        have hAn1 := hAn.out.1
        have hroom := hG.room
        rw [hAn1] at hroom
        have hTl := tablesLen A [] i (rowL 0 h) wr hG
        rw [hu] at hTl hroom
        have hwn := IntWalk.i64_in ((n : Int) - ((2 + h : Nat) : Int)) (by omega)
        have hall := rowL_all h (by omega)
        clear hAn1 hu
        go_upto_region 25 with (first
          | (go_at_call 21; refine hTl.mono ?_; clear hTl; rintro e w5 ⟨s5, d5, rfl, hg5⟩; have hG5 := hG.keep0 hg5; have hAl := allLen A [] i (rowL 0 h) w5 hG5; rw [hall] at hAl)
          | (go_at_call 26; refine hAl.mono ?_; clear hAl; rintro e w6 ⟨s6, d6, rfl, hg6⟩; have hG6 := hG5.keep0 hg6; have hLf := leftG A [] i (rowL 0 h) w6 hG6; rw [hAn.out.2.1, hAn.out.1, hu'.out] at hLf)
          | (go_at_call 24; refine hLf.mono ?_; clear hLf; rintro e w7 ⟨rfl, hg7⟩; have hG7 := hG6.keep0 hg7)
          | go_in)
        have hgr7 := ((hgr.trans hg5).trans hg6).trans hg7
        clear hG hgr hG5 hG6 hg5 hg6 hg7 hall
        go_wp2_with fail
        go_loopw [15] (fun v15 wx => ∃ j : Nat, v15 = .int .i64 j ∧ j ≤ h ∧ GrAt wx A [] (i + j) (rowL j h) ∧ GrowBut w wx []) (fun v15 _ => h - natOf v15)
        case atStart => exact ⟨0, rfl, by omega, hG7, hgr7⟩
        case round =>
          obtain ⟨j, rfl, hj, hG, hgr⟩ := hrel
          by_cases hlj : j < h
          · have hlj' : (j : Int) < (h : Int) := by omega
            have hwi := IntWalk.i64_in (16 * (j : Int)) (by omega)
            have hC := cutG A [] (i + j) (rowL j h) (16 * (j : Int)) wr hG (by omega) ⟨by omega, by omega⟩
            have hsome : (rowL j h (16 * (j : Int))).isSome = true := by unfold rowL; rw [if_pos (by omega)]; rfl
            have ht1 := rowL_tabs (j + 1) h (by omega) (by omega)
            have ht2 := hG.room
            have ht3 := rowL_tabs j h (by omega) (by omega)
            have hr : tabsN (rowL (j + 1) h) ≤ A.n := by
              rw [if_pos hlj] at ht3
              split at ht1 <;> omega
            unfold cutE cutF at hC
            rw [if_pos hsome, if_pos hsome, rowL_cut hlj, orE_ok hr, orL_ok hr] at hC
            clear hG ht1 ht2 ht3 hr hsome hG7
            go_wp2_with (first
              | (go_at_call 14; refine hC.mono ?_; rintro e w8 ⟨rfl, hG8, hg8⟩)
              | go_in)
            all_goals exact ⟨⟨j + 1, by simp, by omega, hG8, hnxt hgr hg8⟩, by simp [natOf]; omega⟩
          · have hjh : j = h := by omega
            subst hjh
            rw [rowL_self] at hG
            have hge2 : ¬ ((j : Nat) : Int) < ((j : Nat) : Int) := by omega
            have hRo := rootG A [] _ noneL wr hG
            have hRd := readRoot A [] _ wr hG
            rw [hAn.out.2.2] at hRd
            clear hG7 hgr7 hge
            go_upto_region 31 with (first
              | (go_at_call 23; refine hRo.mono ?_; rintro e w8 ⟨rfl, hww⟩; rw [hww]; clear hww w8)
              | (go_at_call 27; refine hRd.mono ?_; clear hRd; rintro e w8 ⟨gb, cb, rfl, hcb, hg8⟩; have hG8 := hG.keep0 hg8; have hgr8 := hgr.trans hg8)
              | fail)
            have hTz := tablesLen A [] (i + j) noneL
            have hLz := leftG A [] (i + j) noneL
            rw [tabsN_none] at hTz
            rw [hAn.out.2.1, hAn.out.1, tabsN_none] at hLz
            have hwn1 := IntWalk.i64_in ((n : Int) - 1) (by omega)
            obtain ⟨s0, hs0⟩ : ∃ s0, s0 = strOfNums (List.replicate 128 (0 : Int)) := ⟨_, rfl⟩
            have hcv : ∀ w9, GrowBut w8 w9 [] → (convert 49 9 (.slice (some ⟨gb, 0, none⟩) 128 cb)).run Try.prog w9 = .ok (.string s0) w9 := fun w9 hg9 => by
              rw [hs0]
              refine run_convert_bytes_arg (P := Try.prog) (w := w9) 49 5 Try.underlying49 Try.underlying5 gb 0 128 cb (List.replicate 128 0) (by simp) (fun q hq => ?_) 9 Try.underlying9
              rw [Nat.zero_add, List.getD_eq_getElem?_getD, List.getElem?_replicate, if_pos hq]
              exact hg9.cell (hcb q hq) (by simp)
            obtain ⟨Ar, hAr, hMk⟩ := make_row (t := 49) (e := 5) (c := .int .u8 0) (k := 1) Try.underlying49 (by omega) (by kernel_rfl) 128 (by omega)
            have hgN := (GrowBut.alloc w8 (.cells Ar 5) []).trans (GrowBut.drew _ [])
            have hcn : (convert 49 9 (.slice (some ⟨w8.heap.size, 0, none⟩) 128 128)).run Try.prog (w8.alloc (.cells Ar 5)).drew = .ok (.string s0) (w8.alloc (.cells Ar 5)).drew := by
              rw [hs0]
              refine run_convert_bytes_arg (P := Try.prog) (w := (w8.alloc (.cells Ar 5)).drew) 49 5 Try.underlying49 Try.underlying5 w8.heap.size 0 128 128 (List.replicate 128 0) (by simp) (fun q hq => ?_) 9 Try.underlying9
              rw [Nat.zero_add, List.getD_eq_getElem?_getD, List.getElem?_replicate, if_pos hq]
              have hc : (w8.alloc (.cells Ar 5)).cell? ⟨w8.heap.size, q, none⟩ = some (.int .u8 0) := by
                rw [World.cell?_alloc_new]
                exact hAr q (by omega)
              exact hc
            simp only [Int.cast_ofNat_Int] at hMk
            have k0 := hcv w8.drew (GrowBut.drew _ _)
            have k1 := hcv _ hgN
            have hG9 := hG8.keep0 hgN
            clear hcb hs0 hAr hRo
            go_region_held (fun w' => (convert 49 9 (.slice (some ⟨gb, 0, none⟩) 128 cb)).run Try.prog w' = .ok (.string s0) w') (first | go_keep | (exact k1) | (exact k2) | (exact k3))
              (first
                | (go_at_call 21; refine (hTz _ hG9).mono ?_; rintro e w10 ⟨s10, d10, rfl, hg10⟩; have hgX := hgN.trans hg10; have k2 := hcv w10 hgX; have hG10 := hG9.keep0 hg10)
                | (go_at_call 24; refine (hLz _ hG10).mono ?_; rintro e w11 ⟨rfl, hg11⟩; have hgY := hgX.trans hg11; have k3 := hcv w11 hgY)
                | fail)
            go_wp2_with fail
            go_ret
            exact ⟨rfl, hgr8.trans hgY⟩

theorem graftFull_walk (ta gr : Int) (w : World) (h1 : (Lit.int .u8 ta).wf = true) (h2 : (Lit.int .u8 gr).wf = true) :
    Calls Try.prog 8 #[.int .u8 ta, .int .u8 gr] w fun e w' => e = .returned (.bool true) ∧ w.grownBy w' none := by
  have b1 := wf_u8 h1
  have b2 := wf_u8 h2
  obtain ⟨a, rfl⟩ : ∃ a : Nat, ta = a := ⟨ta.toNat, by omega⟩
  obtain ⟨b, rfl⟩ : ∃ b : Nat, gr = b := ⟨gr.toNat, by omega⟩
  exact (full_walk a b w (by omega) (by omega)).mono fun e w' h => ⟨h.1, h.2.keepAll⟩

end Go.Proofs.Ytdhnfhhmacjajaa


/-
  Arguments that come in: arrays of numbers, rows of numbers (for a seat without api.Regs).
-/
namespace Go.Proofs.Ytdhnfhhmacjajaa
open Go Go.ChangeShapes Go.WideShapes Go.ChangeAt Go.RowKit
set_option linter.unusedVariables false
set_option linter.unusedSimpArgs false

theorem laidOut : laidOutB Try.prog = true := by kernel_rfl
theorem ownKnobs : ownKnob Try.prog.godebug = none := by kernel_rfl

/-! ### Arrays of numbers that come in -/
theorem mapM_all {α β : Type} {f : α → Option β} : ∀ {L : List α} {ys : List β}, L.mapM f = some ys → ∀ i ∈ L, ∃ y, f i = some y
  | [], _, _, i, hi => by simp at hi
  | x :: L, ys, h, i, hi => by
    rw [List.mapM_cons] at h
    simp only [bind, Option.bind_eq_some_iff, pure, Option.some.injEq] at h
    obtain ⟨y, hy, zs, hz, _⟩ := h
    rcases List.mem_cons.1 hi with rfl | hi
    · exact ⟨y, hy⟩
    · exact mapM_all hz i hi

theorem all_ints {q : IntKind} : ∀ (l : List Value), (∀ x ∈ l, ∃ a, x = .int q a) → ∃ zs : List Int, l = zs.map (Value.int q ·)
  | [], _ => ⟨[], rfl⟩
  | x :: l, h => by
    obtain ⟨a, rfl⟩ := h x (by simp)
    obtain ⟨zs, rfl⟩ := all_ints l fun y hy => h y (by simp [hy])
    exact ⟨a :: zs, rfl⟩

theorem arr_ints {H : Type} {enc : TypeId × Value → H} {P : Program} {k e : TypeId} {n : Nat} {q : IntKind} {W : World} {base : Nat} {sp : Nat → Bool} {held : Bool} (hu : P.underlying k = some (.array n e)) (he : P.underlying e = some (.int q)) (h1 : P.cellsOf e = 1) (hk : P.cellsOf k = n)
    {xs : Array Value} (hn : xs.size = n) {d : DataW H} {ps : List MemPlace} (hd : DataW.Trod enc P W base sp held k (.agg xs) d ps) : ps = [] ∧ ∃ zs : List Int, xs.toList = zs.map (Value.int q ·) ∧ zs.length = n := by
  obtain ⟨fuel, hf⟩ := hd
  cases fuel with
  | zero => simp [DataW.trod] at hf
  | succ m =>
    rw [DataW.trod_step] at hf
    unfold DataW.trodStep at hf
    simp only [hu, Value.cells] at hf
    rw [if_pos (by rw [hk]; simpa using hn)] at hf
    simp only [Option.map_eq_some_iff] at hf
    obtain ⟨ys, hy, e1⟩ := hf
    obtain ⟨ls, hls, _⟩ := Go.WideMaps.mapM_both (D := 0) he _ ys hy
    simp only [Prod.mk.injEq] at e1
    refine ⟨by rw [← e1.2, hls]; simp [List.flatMap_eq_nil_iff], ?_⟩
    have hall : ∀ x ∈ xs.toList, ∃ a, x = Value.int q a := fun x hx => by
      obtain ⟨i, hi, hxi⟩ := List.getElem_of_mem hx
      have hin : i < n := by rw [← hn]; simpa using hi
      obtain ⟨y, hy'⟩ := mapM_all hy i (by simp [hin])
      obtain ⟨a, ha, _⟩ := DataW.trod_int he hy'
      refine ⟨a, ?_⟩
      rw [h1, Nat.mul_one] at ha
      have : ((xs.toList.drop i).take 1)[0]? = some (Value.int q a) := by rw [ha]; rfl
      rw [List.getElem?_take, if_pos (by omega), List.getElem?_drop, Nat.add_zero, List.getElem?_eq_getElem hi, hxi] at this
      exact Option.some.inj this
    obtain ⟨zs, hz⟩ := all_ints _ hall
    refine ⟨zs, hz, ?_⟩
    have := congrArg List.length hz
    simp at this
    omega

abbrev regs (x0 x1 x2 x3 x4 x5 x6 x7 : Int) : Value := .agg #[.int .u64 x0, .int .u64 x1, .int .u64 x2, .int .u64 x3, .int .u64 x4, .int .u64 x5, .int .u64 x6, .int .u64 x7]

set_option maxRecDepth 100000 in
theorem cell_ltO {w : World} {a : Addr} {v : Value} (h : w.cell? a = some v) : a.block < w.heap.size := by
  by_cases h2 : a.block < w.heap.size
  · exact h2
  · exfalso
    have h3 : w.heap[a.block]? = none := Array.getElem?_eq_none (by omega)
    simp [World.cell?, h3] at h

set_option maxRecDepth 100000 in
theorem slice_ints {H : Type} {enc : TypeId × Value → H} {W : World} {b0 : Nat} {r : Reach} {t e : TypeId} {q : IntKind} {v : Value} {d : DataW H} {ps : List MemPlace} (ht : Try.prog.underlying t = some (.slice e)) (he : Try.prog.underlying e = some (.int q)) (hc : Try.prog.cellsOf e = 1) (hval : Value.okWide Try.prog W r b0 t v)
    (hd : DataW.Trod enc Try.prog W 0 (fun _ => true) true t v d ps) :
    ∃ (zs : List Int) (p : Option Addr) (cap : Nat), v = .slice p zs.length cap ∧ (∀ i, i < zs.length → ∃ a, p = some a ∧ a.block < W.heap.size ∧ W.cell? (a.add i) = some (.int q (zs.getD i 0))) ∧ ∀ n ∈ zs, (Lit.int q n).wf = true := by
  obtain ⟨fuel, hf⟩ := hd
  obtain ⟨a0, len, cap, rfl⟩ := okWide_slice ht hval
  rcases open_ints ht he hc hf with ⟨hcs, hx⟩ | ⟨a, len', cap', zs, hcs, _, hl, hm, hz, hx, hcell, hwz⟩
  · simp [Value.cells] at hcs
    obtain ⟨rfl, rfl, rfl⟩ := hcs
    exact ⟨[], none, 0, rfl, fun i hi => by simp at hi, fun n hn => by simp at hn⟩
  · simp [Value.cells] at hcs
    obtain ⟨rfl, rfl, rfl⟩ := hcs
    simp only [if_true] at hz
    refine ⟨zs.take len, _, cap, by rw [List.length_take, Nat.min_eq_left (by omega)], fun i hi => ?_, fun n hn => hwz n (List.mem_of_mem_take hn)⟩
    rw [List.length_take, Nat.min_eq_left (by omega)] at hi
    have h1 := hcell i (by omega)
    refine ⟨a, rfl, ?_, ?_⟩
    · have : (a.add i).block = a.block := by unfold Addr.add; first | rfl | (split <;> rfl)
      rw [← this]
      exact cell_ltO h1
    · rw [h1, List.getD_eq_getElem?_getD, List.getD_eq_getElem?_getD, List.getElem?_take_of_lt hi]

end Go.Proofs.Ytdhnfhhmacjajaa
