/-
  SeatOne: the walk.
-/
import Derived.Test.YthhfokbfdeghpaaSeatX
import Derived.Test.YthhfokbfdeghpaaSeatW
import Derived.Test.YthhfokbfdeghpaaSeatN
import Derived.Test.YthhfokbfdeghpaaSeatB
import Derived.Test.YthhfokbfdeghpaaOpens
import Derived.Deep.Cut
import Derived.Laws.BitsAllLaws
import Derived.IntWalk
import Derived.BigQuiet
namespace Go.Proofs.Ythhfokbfdeghpaa
open Go Go.RowKit Go.Maps Go.Am
set_option linter.unusedVariables false

/-- A number that a slot holds. -/
def intOf (v : Value) : Nat := match v with
  | .int _ k => k.toNat
  | _ => 0

theorem wf_u8s {a : Int} (h : (Lit.int .u8 a).wf = true) : 0 ≤ a ∧ a < 256 := by
  simp only [Lit.wf, Bool.and_eq_true, decide_eq_true_eq] at h
  have hm : IntKind.u8.min = 0 := by decide
  have hM : IntKind.u8.max = 255 := by decide
  rw [hm, hM] at h
  omega

theorem wf_u16s {a : Int} (h : (Lit.int .u16 a).wf = true) : 0 ≤ a ∧ a < 65536 := by
  simp only [Lit.wf, Bool.and_eq_true, decide_eq_true_eq] at h
  have hm : IntKind.u16.min = 0 := by decide
  have hM : IntKind.u16.max = 65535 := by decide
  rw [hm, hM] at h
  omega

theorem where_one {n : Nat} {now : Nat → Nat} {p : Nat} {e : Ending} (h : WhereIs n now p e) : ∃ (at_ : Nat) (is : Bool), e = .returned (.tuple #[.int .i64 at_, .bool is]) ∧ ((is = true ∧ at_ < n ∧ now at_ = p) ∨ (is = false ∧ ∀ i, i < n → now i ≠ p)) := by
  rcases h with ⟨a, rfl, h1, h2⟩ | ⟨rfl, h⟩
  · exact ⟨a, true, rfl, .inl ⟨rfl, h1, h2⟩⟩
  · exact ⟨0, false, rfl, .inr ⟨rfl, h⟩⟩

theorem ints_at {w : World} {p : Option Addr} {d : Nat} {q : IntKind} {zs : List Int} (hz : ∀ i, i < d → ∃ a, p = some a ∧ a.block < w.heap.size ∧ w.cell? (a.add i) = some (.int q (zs.getD i 0))) :
    ∀ i, i < d → ∃ g off, p = some ⟨g, off, none⟩ ∧ g < w.heap.size ∧ w.cell? ⟨g, off + i, none⟩ = some (.int q (zs.getD i 0)) := by
  intro i hi
  obtain ⟨⟨g, off, sp⟩, rfl, hg, _⟩ := hz 0 (by omega)
  have hsp : sp = none := by
    obtain ⟨a, ha, _, hc⟩ := hz 0 (by omega)
    cases ha
    simp [Addr.add, World.cell?] at hc
    split at hc
    · by_cases hs : sp = none
      · exact hs
      · simp [hs] at hc
    · cases hc
  subst hsp
  obtain ⟨a, ha, _, hc⟩ := hz i hi
  cases ha
  refine ⟨g, off, rfl, hg, ?_⟩
  have hadd : Addr.add ⟨g, off, none⟩ i = ⟨g, off + i, none⟩ := by
    unfold Addr.add
    by_cases hk : i = 0 <;> simp [hk]
  rw [hadd] at hc
  exact hc

set_option maxRecDepth 100000 in
set_option maxHeartbeats 4000000 in
theorem seatOne_walk (zs : List Int) (p : Option Addr) (cap : Nat) (cpus : Int) (w : World) (hz : ∀ i, i < zs.length → ∃ a, p = some a ∧ a.block < w.heap.size ∧ w.cell? (a.add i) = some (.int .u16 (zs.getD i 0))) (hwz : ∀ n ∈ zs, (Lit.int .u16 n).wf = true) (hcp : (Lit.int .u8 cpus).wf = true) :
    Calls Try.prog 9 #[.slice p zs.length cap, .int .u8 cpus] w fun e w' => e = .returned (.bool true) ∧ w.grownBy w' none := by
  have hcp' := wf_u8s hcp
  obtain ⟨m, hm, hm3⟩ : ∃ m : Nat, cpus % 3 = (m : Int) ∧ m < 3 := ⟨(cpus % 3).toNat, by omega, by omega⟩
  obtain ⟨n, hnm, hn3⟩ : ∃ n : Nat, (1 : Int) + (m : Int) = (n : Int) ∧ (n = 1 ∨ n = 2 ∨ n = 3) := ⟨m + 1, by omega, by omega⟩
  have hwz' : ∀ i, i < zs.length → (Lit.int .u16 (zs.getD i 0)).wf = true ∧ 0 ≤ zs.getD i 0 ∧ zs.getD i 0 < 65536 := fun i hi => by
    rw [List.getD_eq_getElem?_getD, List.getElem?_eq_getElem hi]
    exact ⟨hwz _ (List.getElem_mem hi), wf_u16s (hwz _ (List.getElem_mem hi))⟩
  generalize hd : zs.length = d at *
  replace hz := ints_at hz
  by_cases h50 : 50 < d
  · have h1 : (50 : Int) < (d : Int) := by omega
    go_enter Try.func9, Try.ntmps9
    go_wp2_with (first
      | (go_at_call 43; refine (begunSeat_true _).mono ?_; rintro e w1 ⟨rfl, hb1⟩)
      | go_in)
    go_ret
    exact ⟨rfl, (GrowBut.of_below hb1).keepAll⟩
  have h1 : ¬ (50 : Int) < (d : Int) := by omega
  go_enter Try.func9, Try.ntmps9
  go_wp2_with (first
    | (go_at_call 43; refine (begunSeat_true _).mono ?_; rintro e w1 ⟨rfl, hb1⟩)
    | (go_at_call 44; refine (seatNew_calls n hn3 w1).mono ?_; rintro e w2 ⟨S, C, P, O, B, b, K, bt, bf, rfl, hS2, hlo, hg2⟩)
    | go_in)
  have hw2 : GrowBut w w2 [] := (GrowBut.of_below hb1).trans hg2
  have hs1 := hb1.size
  have hlow : ∀ x ∈ turns C P O b bt bf, w.heap.size ≤ x := fun x hx => by have := hlo x hx; omega
  clear hlo hb1 hg2 hs1 hwz hcp hcp' hm
  generalize hkeep : (0 : Nat) = z0 at hS2
  subst hkeep
  go_loopw [7] (fun v7 wx => ∃ i : Nat, v7 = .int .i64 i ∧ i ≤ d ∧ SeatS wx S C P O B b K bt bf n i ∧ GrowBut w wx []) (fun v7 _ => d - intOf v7)
  case atStart => exact ⟨0, rfl, by omega, hS2, hw2⟩
  case round =>
    obtain ⟨i, rfl, hi, ⟨now, ph, ow, L, hSt⟩, hG⟩ := hrel
    by_cases hlt : i < d
    · have hlt' : (i : Int) < (d : Int) := by omega
      obtain ⟨ga, off, rfl, hga, hcell⟩ := hz i hlt
      obtain ⟨hzw, hzr⟩ := hwz' i hlt
      generalize zs.getD i 0 = z at hcell hzw hzr
      have c0 := hG.cell hcell (by simp)
      clear hz hwz' hcell
      have hnp : (0 : Int) < (n : Int) := by omega
      obtain ⟨c, hc, hcn⟩ : ∃ c : Nat, z / 8 % (n : Int) = (c : Int) ∧ c < n := ⟨(z / 8 % (n : Int)).toNat, by have := Int.emod_nonneg (z / 8) (show (n : Int) ≠ 0 by omega); omega, by have := Int.emod_lt_of_pos (z / 8) hnp; have := Int.emod_nonneg (z / 8) (show (n : Int) ≠ 0 by omega); omega⟩
      obtain ⟨t, ht, ht5⟩ : ∃ t : Nat, z / 64 % 5 = (t : Int) ∧ t < 5 := ⟨(z / 64 % 5).toNat, by omega, by omega⟩
      obtain ⟨kd, hkd, hk8⟩ : ∃ k : Nat, z % 8 = (k : Int) ∧ k < 8 := ⟨(z % 8).toNat, by omega, by omega⟩
      have hn0 : ¬ (n : Int) = 0 := by omega
      have hE8 : (wrap64 (IntKind.u16.wrap (z.tdiv 8))).tmod (n : Int) = (c : Int) := by
        rw [IntKind.wrap_u16, Int.tdiv_eq_ediv_of_nonneg hzr.1, Go.IntWalk.wrap64_in _ (by omega), Int.tmod_eq_emod_of_nonneg (by omega), show z / 8 % 65536 = z / 8 by omega, hc]
      have hE64 : wrap64 ((IntKind.u16.wrap (z.tdiv 64)).tmod 5) = (t : Int) := by
        rw [IntKind.wrap_u16, Int.tdiv_eq_ediv_of_nonneg hzr.1, Int.tmod_eq_emod_of_nonneg (by omega), show z / 64 % 65536 = z / 64 by omega, ht, Go.IntWalk.wrap64_in _ (by omega)]
      have hE1 : IntKind.u16.wrap (z.tmod 8) = (kd : Int) := by
        rw [IntKind.wrap_u16, Int.tmod_eq_emod_of_nonneg hzr.1, hkd]; omega
      have hS0 := SeatAt.more hSt (Nat.le_refl i)
      go_upto_region 10 with go_in
      go_quiet (fail)
      have hSd := hSt.kept (GrowBut.drewN wr nq [])
      have hGd := hG.trans (GrowBut.drewN wr nq [])
      have c0d := (GrowBut.drewN wr nq []).cell c0 (by simp)
      simp only [hE64]
      clear hS0 hSt hG c0
      generalize wr.drewN nq = w3 at hSd hGd c0d ⊢
      simp only [Exit.then]
      rename_i hK9
      refine hK9 _ _ ?_
      refine wp_seq_k ?_
      intro Kt hKt
      go_cut [6] from 29 (fun v6 wc => v6 = .pointer (some ⟨S, 0, none⟩) ∧ SeatS wc S C P O B b K bt bf n (i + 1) ∧ GrowBut w wc [])
      case first =>
        as_aux_lemma =>
          have hk8' : kd = 0 ∨ kd = 1 ∨ kd = 2 ∨ kd = 3 ∨ kd = 4 ∨ kd = 5 ∨ kd = 6 ∨ kd = 7 := by omega
          clear hKt hK9 hE8 hE64 hE1 hc ht
          rcases hk8' with rfl | rfl | rfl | rfl | rfl | rfl | rfl | rfl
          · replace hkd : z % 8 = 0 := hkd
            go_wp2_with (first
              | (go_at_call 45; refine (step_run hSd c t hcn ht5).mono ?_; rintro e w5 ⟨⟨er, rfl⟩, hS5, hg5⟩)
              | go_in)
            go_meet
            case rel => exact ⟨rfl, hS5, hGd.from hg5 (fun x hx => .inr (hlow x hx))⟩
          · replace hkd : z % 8 = 1 := hkd
            go_wp2_with (first
              | (go_at_call 45; refine (step_run hSd c t hcn ht5).mono ?_; rintro e w5 ⟨⟨er, rfl⟩, hS5, hg5⟩)
              | go_in)
            go_meet
            case rel => exact ⟨rfl, hS5, hGd.from hg5 (fun x hx => .inr (hlow x hx))⟩
          · replace hkd : z % 8 = 2 := hkd
            go_wp2_with (first
              | (go_at_call 46; refine (step_call hSd c t _ hcn ht5 ⟨_, _, _, _, _, _, _, _, rfl⟩ (by omega)).mono ?_; rintro e w5 ⟨⟨er, rfl⟩, hS5, hg5⟩)
              | go_in)
            go_meet
            case rel => exact ⟨rfl, hS5, hGd.from hg5 (fun x hx => .inr (hlow x hx))⟩
          · replace hkd : z % 8 = 3 := hkd
            go_wp2_with (first
              | (go_at_call 46; refine (step_call hSd c t _ hcn ht5 ⟨_, _, _, _, _, _, _, _, rfl⟩ (by omega)).mono ?_; rintro e w5 ⟨⟨er, rfl⟩, hS5, hg5⟩)
              | go_in)
            go_meet
            case rel => exact ⟨rfl, hS5, hGd.from hg5 (fun x hx => .inr (hlow x hx))⟩
          · replace hkd : z % 8 = 4 := hkd
            go_wp2_with (first
              | (go_at_call 47; refine (step_answer hSd c _ hcn ⟨_, _, _, _, _, _, _, _, rfl⟩ (by omega)).mono ?_; rintro e w5 ⟨⟨er, rfl⟩, hS5, hg5⟩)
              | go_in)
            go_meet
            case rel => exact ⟨rfl, hS5, hGd.from hg5 (fun x hx => .inr (hlow x hx))⟩
          · replace hkd : z % 8 = 5 := hkd
            go_wp2_with (first
              | (go_at_call 48; refine (step_leave hSd c 6 _ _ hcn (by simp) ⟨_, _, _, _, _, _, _, _, rfl⟩ ⟨_, _, _, _, _, _, _, _, rfl⟩ (by omega)).mono ?_; rintro e w5 ⟨⟨er, rfl, _⟩, hS5, hg5⟩)
              | go_in)
            go_meet
            case rel => exact ⟨rfl, hS5, hGd.from hg5 (fun x hx => .inr (hlow x hx))⟩
          · replace hkd : z % 8 = 6 := hkd
            go_wp2_with (first
              | (go_at_call 48; refine (step_leave hSd c 7 _ _ hcn (by simp) ⟨_, _, _, _, _, _, _, _, rfl⟩ ⟨_, _, _, _, _, _, _, _, rfl⟩ (by omega)).mono ?_; rintro e w5 ⟨⟨er, rfl, _⟩, hS5, hg5⟩)
              | go_in)
            go_meet
            case rel => exact ⟨rfl, hS5, hGd.from hg5 (fun x hx => .inr (hlow x hx))⟩
          · replace hkd : z % 8 = 7 := hkd
            have hNow := sNow_calls c w3 hSd hcn
            by_cases h0 : now c = 0
            · rw [h0] at hNow
              simp only [Int.natCast_zero] at hNow
              go_wp2_with (first
                | (go_at_call 49; refine hNow.mono ?_; rintro e w5 ⟨rfl, hw5⟩; rw [hw5]; clear hw5 w5)
                | go_in)
              go_meet
              case rel => exact ⟨rfl, ⟨_, _, _, _, hSd.more (by omega)⟩, hGd⟩
            · have hn0' : ¬ ((now c : Nat) : Int) = 0 := by omega
              have hn0b : (((now c : Nat) : Int) == 0) = false := by simpa using hn0'
              have hn0c : (((now c : Nat) : Int) != 0) = true := by simpa using hn0'
              have hRegs := sRegs_calls c w3 hSd hcn
              have hLv := fun w5 (hg : GrowBut w3 w5 []) v (hv : IsRegs v) => step_leave (hSd.kept hg) c 8 v (.agg #[.int .u64 2, .int .u64 0, .int .u64 0, .int .u64 0, .int .u64 0, .int .u64 0, .int .u64 0, .int .u64 0]) hcn (by simp) hv ⟨_, _, _, _, _, _, _, _, rfl⟩ (by omega)
              generalize hqq : now c = q at hNow hn0' hn0b hn0c hLv h0
              go_wp2_with (first
                | (go_at_call 49; refine hNow.mono ?_; rintro e w5 ⟨rfl, hw5⟩; rw [hw5]; clear hw5 w5)
                | (go_at_call 50; refine hRegs.mono ?_; clear hRegs; rintro e w5 ⟨v5, rfl, hv5, hg5⟩)
                | (go_at_call 48; refine (hLv w5 hg5 v5 hv5).mono ?_; clear hLv; rintro e w6 ⟨⟨er, rfl, her⟩, hS6, hg6⟩; obtain rfl : er = 0 := by first | exact her trivial h0 | exact her rfl h0 | simpa [h0] using her)
                | go_in)
              go_meet
              case rel => exact ⟨rfl, hS6, (hGd.trans hg5).from hg6 (fun x hx => .inr (hlow x hx))⟩
      case rest =>
        obtain ⟨rfl, ⟨now2, ph2, ow2, L2, hSt⟩, hG⟩ := hcut
        clear hSd hGd c0d hE8 hE64 hE1 hzw hzr hkd hk8 hc ht ht5 hcn
        refine hKt _ _ ?_
        clear hKt hK9
        go_upto_region 27 with go_in
        go_loopw [10] (fun v10 wx => ∃ p : Nat, v10 = .int .i64 p ∧ 1 ≤ p ∧ p ≤ 5 ∧ GrowBut wc wx []) (fun v10 _ => 5 - intOf v10)
        case atStart => exact ⟨1, rfl, by omega, by omega, .refl _ _⟩
        case round =>
          obtain ⟨p, rfl, hp1, hp5, hgp⟩ := hrel
          by_cases hpl : p < 5
          · have hpl' : (p : Int) < 5 := by omega
            have hSp := hSt.kept hgp
            go_upto_region 31 with go_in
            go_loopw [11, 12] (fun v11 v12 wx => ∃ k : Nat, v12 = .int .i64 k ∧ k ≤ n ∧ v11 = .int .i64 (cnt now2 p k) ∧ wx = wr) (fun _ v12 _ => n - intOf v12)
            case atStart => exact ⟨0, rfl, by omega, rfl, rfl⟩
            case round =>
              obtain ⟨k, rfl, hkn, rfl, rfl⟩ := hrel
              by_cases hkl : k < n
              · have hkl' : (k : Int) < n := by omega
                have hNow := sNow_calls k _ hSp hkl
                have hcl := cnt_le now2 p k
                by_cases hnp : now2 k = p
                · rw [hnp] at hNow
                  have hcs : cnt now2 p (k + 1) = cnt now2 p k + 1 := by simp [cnt, hnp]
                  go_wp2_with (first
                    | (go_at_call 49; refine hNow.mono ?_; rintro e w5 ⟨rfl, hw5⟩; rw [hw5]; clear hw5 w5)
                    | go_in)
                  exact ⟨⟨k + 1, by simp, by omega, by rw [hcs]; simp, trivial⟩, by simp [intOf]; omega⟩
                · have hne : ¬ ((now2 k : Nat) : Int) = (p : Int) := by omega
                  have hcs : cnt now2 p (k + 1) = cnt now2 p k := by simp [cnt, hnp]
                  go_wp2_with (first
                    | (go_at_call 49; refine hNow.mono ?_; rintro e w5 ⟨rfl, hw5⟩; rw [hw5]; clear hw5 w5)
                    | go_in)
                  exact ⟨⟨k + 1, by simp, by omega, by rw [hcs], trivial⟩, by simp [intOf]; omega⟩
              · have hkn' : k = n := by omega
                have hge : ¬ (k : Int) < n := by omega
                subst hkn'
                have hWh := where_calls p _ hSp hp1 hpl
                have hPh := fun w5 (hg : GrowBut _ w5 []) => sPhase_calls p w5 (hSp.kept hg) hp1 hpl
                have hLk := fun w5 (hg : GrowBut _ w5 []) => sLinks_calls w5 (hSp.kept hg) (by omega)
                have hOw := fun w5 (hg : GrowBut _ w5 []) => sOwes_calls p w5 (hSp.kept hg) hp1 hpl
                have hNw := fun at_ (ha : at_ < k) w5 (hg : GrowBut _ w5 []) => sNow_calls at_ w5 (hSp.kept hg) ha
                have hblk := hSp.inv.blk p hp1 hpl
                have hrng := hSp.inv.rng
                have hcount := hSp.inv.count hp1 hpl
                have hL4 : L2.length ≤ 4 := by
                  obtain ⟨mm, _, hch⟩ := hSp.chain
                  have := nodup_len (L2.map Prod.fst) [1, 2, 3, 4] hch.nf (fun v hv => by
                    obtain ⟨x, hx, rfl⟩ := List.mem_map.1 hv
                    obtain ⟨pp, qq, e, h1, h5, _⟩ := hrng x hx
                    rw [e]
                    have : pp = 1 ∨ pp = 2 ∨ pp = 3 ∨ pp = 4 := by omega
                    rcases this with rfl | rfl | rfl | rfl <;> simp)
                  simpa using this
                obtain ⟨hc1, hcr, hff⟩ : cnt now2 p k ≤ 1 ∧ (ph2 p = 2 ↔ cnt now2 p k = 1) ∧ ((∃ i, i < k ∧ now2 i = p) ↔ cnt now2 p k = 1) := by
                  rcases hcount with ⟨hf, hcnt, i0, hi0, hni, huni⟩ | ⟨hf, hcnt, hnone⟩
                  · rw [hcnt]; exact ⟨by omega, by simp [hf], ⟨fun _ => rfl, fun _ => ⟨i0, hi0, hni⟩⟩⟩
                  · rw [hcnt]; exact ⟨by omega, ⟨fun h => absurd h hf, fun h => by omega⟩, ⟨fun ⟨i, hi, e⟩ => absurd e (hnone i hi), fun h => by omega⟩⟩
                clear hcount
                generalize hcv : cnt now2 p k = cv at hc1 hcr hff ⊢
                clear hcv
                go_upto_region 36 with (first
                  | (go_at_call 51; refine hWh.mono ?_; clear hWh; rintro e w5 ⟨hW, hg5⟩; obtain ⟨at_, is, rfl, hW2⟩ := where_one hW; clear hW)
                  | go_in)
                have hLk5 := hLk w5 hg5
                have hPh5 := hPh w5 hg5
                have hNw5 := fun at_ ha => hNw at_ ha w5 hg5
                clear hLk hNw
                go_cut [11, 13, 14, 156] from 108 (fun v11 v13 v14 v156 wx => v156 = .bool false ∧ wx = w5)
                case first =>
                  as_aux_lemma =>
                    clear hLk5 hPh hOw hblk hrng
                    rcases hW2 with ⟨his, hat, hnat⟩ | ⟨his, hno⟩
                    · simp only [his]
                      clear his
                      have hcv1 : cv = 1 := hff.1 ⟨at_, hat, hnat⟩
                      subst hcv1
                      have hf2 : ph2 p = 2 := hcr.2 rfl
                      have hN5 := hNw5 at_ hat
                      rw [hnat] at hN5
                      rw [hf2] at hPh5
                      simp only [Int.cast_ofNat_Int] at hPh5 ⊢
                      clear hnat hf2 hat hff hcr hNw5
                      go_wp2_with (first
                        | (go_at_call 52; refine hPh5.mono ?_; rintro e w6 ⟨rfl, hw6⟩; rw [hw6]; clear hw6 w6)
                        | (go_at_call 49; refine hN5.mono ?_; rintro e w6 ⟨rfl, hw6⟩; rw [hw6]; clear hw6 w6)
                        | go_in)
                      go_meet
                      case rel => exact ⟨by simp, by first | rfl | trivial⟩
                    · simp only [his]
                      clear his
                      have hcv0 : cv = 0 := by
                        have : ¬ cv = 1 := fun e => by obtain ⟨i, hi, e2⟩ := hff.2 e; exact hno i hi e2
                        omega
                      subst hcv0
                      have hn2 : ¬ ((ph2 p : Nat) : Int) = 2 := fun e => by have := hcr.1 (by omega); omega
                      have hn2b : (((ph2 p : Nat) : Int) == 2) = false := by rw [beq_eq_false_iff_ne]; exact hn2
                      simp only [Int.natCast_zero]
                      generalize ph2 p = f at hPh5 hn2 hn2b
                      clear hff hcr hNw5 hno
                      go_wp2_with (first
                        | (go_at_call 52; refine hPh5.mono ?_; rintro e w6 ⟨rfl, hw6⟩; rw [hw6]; clear hw6 w6)
                        | go_in)
                      go_meet
                      case rel => exact ⟨by simp, by first | rfl | trivial⟩
                case rest =>
                  as_aux_lemma =>
                    obtain ⟨rfl, rfl⟩ := hcut
                    clear hW2 hNw5 hcr hff hc1 hPh5
                    go_upto_region 41 with (first
                      | (go_at_call 53; refine hLk5.mono ?_; clear hLk5; rintro e w7 ⟨v7, M, rfl, hpm, ⟨q7, cap7, rfl, hrow⟩, hg7⟩)
                      | go_in)
                    have hMl : M.length ≤ 4 := by have := hpm.length_eq; omega
                    have hg57 := hg5.trans hg7
                    have hOw7 := hOw w7 hg57
                    have hPh7 := hPh w7 hg57
                    have hrow7 : ∀ j (hj : j < M.length), ∃ g, q7 = some ⟨g, 0, none⟩ ∧ w7.cell? ⟨g, j * 2, none⟩ = some (.int .i64 (M[j]).1) ∧ w7.cell? ⟨g, j * 2 + 1, none⟩ = some (.int .i64 (M[j]).2) := fun j hj => by
                      obtain ⟨g, e, _, _, h3, h4⟩ := hrow j hj
                      exact ⟨g, e, h3, h4⟩
                    have hmf : (p : Int) ∈ (M.take M.length).map Prod.fst ↔ (p : Int) ∈ L2.map Prod.fst := by rw [List.take_length]; exact (hpm.map Prod.fst).mem_iff
                    clear hrow hPh hOw
                    go_loopw [15, 17] (fun v15 v17 wx => ∃ j : Nat, v17 = .int .i64 j ∧ j ≤ M.length ∧ v15 = .bool (decide ((p : Int) ∈ (M.take j).map Prod.fst)) ∧ wx = w7) (fun _ v17 _ => M.length - intOf v17)
                    case atStart => exact ⟨0, rfl, by omega, by simp, rfl⟩
                    case round =>
                      obtain ⟨j, rfl, hjM, rfl, rfl⟩ := hrel
                      by_cases hjl : j < M.length
                      · have hjl' : (j : Int) < (M.length : Int) := by omega
                        obtain ⟨g, rfl, d0, d1⟩ := hrow7 j hjl
                        have htk : ∀ x : Int, x ∈ (M.take (j + 1)).map Prod.fst ↔ x ∈ (M.take j).map Prod.fst ∨ x = (M[j]).1 := fun x => by
                          have e1 : M.take (j + 1) = M.take j ++ [M[j]] := by rw [List.take_add_one, List.getElem?_eq_getElem hjl]; rfl
                          rw [e1, List.map_append, List.mem_append, List.map_cons, List.map_nil, List.mem_singleton]
                        have hjm : M[j] ∈ L2 := hpm.mem_iff.1 (List.getElem_mem hjl)
                        obtain ⟨pa, qa, epq, _, _, _, _, how⟩ := hrng _ hjm
                        rw [epq] at d0 d1 htk
                        clear hrow7 epq hjm hmf hblk hPh7
                        have hb1 : (p : Int) ∈ (M.take j).map Prod.fst ∨ ¬ (p : Int) ∈ (M.take j).map Prod.fst := Decidable.em _
                        have htp := htk (p : Int)
                        clear htk
                        have hqa : qa = p ∨ ¬ (qa : Int) = (p : Int) := by omega
                        generalize (M.take j).map Prod.fst = T0 at hb1 htp ⊢
                        generalize hT1 : (M.take (j + 1)).map Prod.fst = T1 at htp
                        have hdec : decide ((p : Int) ∈ T1) = (decide ((p : Int) ∈ T0) || decide ((pa : Int) = (p : Int))) := by
                          rw [Bool.eq_iff_iff, decide_eq_true_eq, Bool.or_eq_true, decide_eq_true_eq, decide_eq_true_eq, htp]
                          constructor
                          · rintro (h | h)
                            · exact .inl h
                            · exact .inr h.symm
                          · rintro (h | h)
                            · exact .inl h
                            · exact .inr h.symm
                        clear htp
                        rcases hb1 with hb1 | hb1 <;> rcases hqa with rfl | hqa
                        all_goals
                          simp only [hb1, decide_true, decide_false]
                          try rw [how] at hOw7
                          go_wp2_with (first
                            | (go_at_call 54; refine hOw7.mono ?_; rintro e w8 ⟨rfl, hw8⟩; rw [hw8]; clear hw8 w8)
                            | go_in)
                          refine ⟨⟨j + 1, by simp, by omega, ?_, trivial⟩, by simp [intOf]; omega⟩
                          rw [hT1, hdec]
                          simp [hb1]
                          try rfl
                      · have hjM' : j = M.length := by omega
                        have hgej : ¬ (j : Int) < (M.length : Int) := by omega
                        subst hjM'
                        clear hrow7 hOw7
                        by_cases h3 : ph2 p = 3
                        · rw [decide_eq_true (hmf.2 (hblk.1 h3))]
                          rw [h3] at hPh7
                          simp only [Int.cast_ofNat_Int] at hPh7
                          clear hmf hblk h3 hrng
                          go_wp2_with (first
                            | (go_at_call 52; refine hPh7.mono ?_; rintro e w8 ⟨rfl, hw8⟩; rw [hw8]; clear hw8 w8)
                            | go_in)
                          exact ⟨⟨p + 1, by simp, by omega, by omega, hgp.trans hg57⟩, by simp [intOf]; omega⟩
                        · rw [decide_eq_false (fun h => h3 (hblk.2 (hmf.1 h)))]
                          have hn3 : ¬ ((ph2 p : Nat) : Int) = 3 := by omega
                          have hn3b : (((ph2 p : Nat) : Int) == 3) = false := by rw [beq_eq_false_iff_ne]; exact hn3
                          clear hmf hblk h3 hrng
                          generalize ph2 p = f at hPh7 hn3 hn3b
                          go_wp2_with (first
                            | (go_at_call 52; refine hPh7.mono ?_; rintro e w8 ⟨rfl, hw8⟩; rw [hw8]; clear hw8 w8)
                            | go_in)
                          exact ⟨⟨p + 1, by simp, by omega, by omega, hgp.trans hg57⟩, by simp [intOf]; omega⟩
          · have hp5' : p = 5 := by omega
            subst hp5'
            have hge : ¬ ((5 : Nat) : Int) < 5 := by omega
            simp only [Int.cast_ofNat_Int] at hge
            go_wp2_with go_in
            exact ⟨⟨i + 1, by simp, by omega, ⟨_, _, _, _, hSt.kept hgp⟩, hG.trans hgp⟩, by simp [intOf]; omega⟩
    · have hid : i = d := by omega
      have hge : ¬ (i : Int) < (d : Int) := by omega
      subst hid
      go_wp2_with go_in
      go_ret
      exact ⟨rfl, hG.keepAll⟩

end Go.Proofs.Ythhfokbfdeghpaa
