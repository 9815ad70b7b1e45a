/-
  ChainAll: the walk.
-/
import Derived.Test.YtlgfopfibopcnaaChainK
import Derived.Test.YtlgfopfibopcnaaChainB
import Derived.Test.YtlgfopfibopcnaaRecs10
import Derived.Deep.Cut
import Derived.Deep.RegionHeld3
import Derived.BigQuiet
import Derived.BigRegion
namespace Go.Proofs.Ytlgfopfibopcnaa
open Go Go.RowKit Go.Maps Go.Am
set_option linter.unusedVariables false

theorem five_of (x : Int) : ∃ s : Nat, (wrap64 (x.tmod 5 + 5)).tmod 5 = (s : Int) ∧ s < 5 := by
  have h1 : -5 < x.tmod 5 ∧ x.tmod 5 < 5 := by
    have := Int.tmod_lt_of_pos x (b := 5) (by decide)
    have := Int.lt_tmod_of_pos x (b := 5) (by decide)
    omega
  generalize x.tmod 5 = y at h1
  have : y = -4 ∨ y = -3 ∨ y = -2 ∨ y = -1 ∨ y = 0 ∨ y = 1 ∨ y = 2 ∨ y = 3 ∨ y = 4 := by omega
  rcases this with rfl | rfl | rfl | rfl | rfl | rfl | rfl | rfl | rfl
  · exact ⟨1, by decide +kernel, by decide⟩
  · exact ⟨2, by decide +kernel, by decide⟩
  · exact ⟨3, by decide +kernel, by decide⟩
  · exact ⟨4, by decide +kernel, by decide⟩
  · exact ⟨0, by decide +kernel, by decide⟩
  · exact ⟨1, by decide +kernel, by decide⟩
  · exact ⟨2, by decide +kernel, by decide⟩
  · exact ⟨3, by decide +kernel, by decide⟩
  · exact ⟨4, by decide +kernel, by decide⟩

set_option maxRecDepth 100000 in
set_option maxHeartbeats 8000000 in
theorem chainAll_walk (n : Nat) (p : Option Addr) (cap : Nat) (w : World) (hz : ∀ i, i < n → ∃ g off, p = some ⟨g, off, none⟩ ∧ g < w.heap.size ∧ ∃ cs : List Value, Deed10 cs ∧ cs.length = 3 ∧ ∀ j, j < 3 → w.cell? ⟨g, off + i * 3 + j, none⟩ = cs[j]?) :
    Calls Try.prog 5 #[.slice p n cap] w fun e w' => e = .returned (.bool true) ∧ w.grownBy w' none := by
  by_cases h40 : 40 < n
  · have h1 : (40 : Int) < (n : Int) := by omega
    go_enter Try.func5, Try.ntmps5
    go_wp2_with (first
      | (go_at_call 39; refine (begunChain_true _).mono ?_; rintro e w1 ⟨rfl, hb1⟩)
      | go_in)
    go_ret
    exact ⟨rfl, (GrowBut.of_below hb1).keepAll⟩
  have h1 : ¬ (40 : Int) < (n : Int) := by omega
  go_enter Try.func5, Try.ntmps5
  go_wp2_with (first
    | (go_at_call 39; refine (begunChain_true _).mono ?_; rintro e w1 ⟨rfl, hb1⟩)
    | (go_at_call 40; refine (newChain_calls w1).mono ?_; rintro e w2 ⟨C, bt, bf, rfl, hC2, hClo, htlo, hflo, hg2⟩)
    | go_in)
  have hs1 := hb1.size
  have hs2 := hg2.size
  have hCl := hC2.lt
  have hbl : bt < w2.heap.size ∧ bf < w2.heap.size := by
    obtain ⟨D, hown, _⟩ := hC2.own_t
    obtain ⟨E, hown', _⟩ := hC2.own_f
    exact ⟨hown.lt, hown'.lt⟩
  have hga := GrowBut.alloc w2 (.cells #[.slice none 0 0] 63) []
  have hT0 : Both w (w2.alloc (.cells #[.slice none 0 0] 63)) C bt bf w2.heap.size (w2.heap.size + 1) 0 [] :=
    ⟨hC2.kept hga (by simp) (by simp) (by simp), ⟨[], List.Perm.refl _, List.Pairwise.nil, ⟨.slice none 0 0, by go_simp, World.ownsRow_nil _ _ _ _⟩, by go_simp, by simp, by omega⟩, by simp, by omega, by omega, by omega, by simp, ((GrowBut.of_below hb1).trans hg2).trans hga⟩
  generalize w2.alloc (.cells #[.slice none 0 0] 63) = wa at hT0 ⊢
  generalize hbase : w2.heap.size + 1 = base at hT0
  generalize w2.heap.size = R at hT0 ⊢
  clear hbase hga hbl hCl hs2 hs1 hC2 hClo htlo hflo hg2
  go_loopw [5] (fun v5 wr => ∃ (i : Nat) (L : List (Int × Int)), v5 = .int .i64 i ∧ i ≤ n ∧ Both w wr C bt bf R base i L) (fun v5 _ => n - (match v5 with | .int _ k => k.toNat | _ => 0))
  case atStart => exact ⟨0, [], rfl, by omega, hT0⟩
  case round =>
    obtain ⟨i, L, rfl, hi, hT⟩ := hrel
    by_cases hlt : i < n
    · obtain ⟨ga, off, rfl, hga, cs, ⟨ka, fa, ta, rfl, hka, hfa, hta⟩, _, hcz⟩ := hz i hlt
      have c0 : wr.cell? ⟨ga, off + i * 3, none⟩ = some (.int .i64 ka) := hT.grow.cell (hcz 0 (by decide)) (by simp)
      have c1 : wr.cell? ⟨ga, off + i * 3 + 1, none⟩ = some (.int .i64 fa) := hT.grow.cell (hcz 1 (by decide)) (by simp)
      have c2 : wr.cell? ⟨ga, off + i * 3 + 2, none⟩ = some (.int .i64 ta) := hT.grow.cell (hcz 2 (by decide)) (by simp)
      clear hcz hz
      have hlt' : (i : Int) < (n : Int) := by omega
      obtain ⟨s, hs, hs5⟩ := five_of ka
      have hTa := hT.kept (GrowBut.alloc wr (.cells #[.int .i64 ka, .int .i64 fa, .int .i64 ta] 65) [])
      have co0 : (wr.alloc (.cells #[.int .i64 ka, .int .i64 fa, .int .i64 ta] 65)).cell? ⟨wr.heap.size, 0, none⟩ = some (.int .i64 ka) := by go_simp
      have co1 : (wr.alloc (.cells #[.int .i64 ka, .int .i64 fa, .int .i64 ta] 65)).cell? ⟨wr.heap.size, 1, none⟩ = some (.int .i64 fa) := by go_simp
      have co2 : (wr.alloc (.cells #[.int .i64 ka, .int .i64 fa, .int .i64 ta] 65)).cell? ⟨wr.heap.size, 2, none⟩ = some (.int .i64 ta) := by go_simp
      have hoc : wr.heap.size ≠ bt ∧ wr.heap.size ≠ bf ∧ wr.heap.size ≠ R := by have := hT.lt; have := hT.size; omega
      go_upto_region 10 with go_in
      generalize wr.alloc (.cells #[.int .i64 ka, .int .i64 fa, .int .i64 ta] 65) = wx at hTa co0 co1 co2 ⊢
      clear c0 c1 c2 hT
      generalize wr.heap.size = o at co0 co1 co2 hoc ⊢
      by_cases hs4 : s = 4
      · subst hs4
        simp only [Int.cast_ofNat_Int] at hs
        obtain ⟨M0, hp0, hr0, hR0⟩ := hTa.ref
        obtain ⟨x, y, L', hl', hA, hB⟩ := answer_both (base := base) (R := R) hTa.ch hp0 hr0 fa hfa (by omega) hTa.len
        go_upto_region 17 with (first
          | (go_at_call 41; refine hA.mono ?_; rintro r w5 ⟨rfl, hC5, hg5⟩; obtain ⟨hR5, hb5⟩ := hTa.mid hR0 hg5; have hB5 := hB w5 hR5 hb5; have d1 := hg5.cell co1 (by have := hoc; simp; omega); have d2 := hg5.cell co2 (by have := hoc; simp; omega))
          | (go_at_call 42; refine hB5.mono ?_; rintro r w6 ⟨rfl, hM6, hg6⟩; have hT6 := hTa.step hl' hC5 hg5 hM6 hg6; have e1 := hg6.cell d1 (by have := hoc; simp; omega); have e2 := hg6.cell d2 (by have := hoc; simp; omega))
          | go_in)
        clear hA hB hB5 hR5 hC5 hM6 hR0 hp0 hr0 hTa co0 co1 co2 d1 d2
        obtain ⟨M, hp, hr, hR6⟩ := hT6.ref
        obtain ⟨x1, y1, hk1, hk2⟩ := caller_both hp hT6.ch.ns ta hta
        obtain ⟨x2, y2, hk3, hk4⟩ := callee_both hp hr fa hfa
        have hLk := linksS_calls C bt bf (i + 1) L' w6 hT6.ch (by omega)
        have hM : M.length ≤ 1000 := by have := hp.length_eq; have := hT6.len; omega
        go_upto_region 22 with (first
          | (go_at_call 45; refine (hk1 _ _ _ _ _ hT6.ch).mono ?_; rintro r w9 ⟨rfl, hw9⟩; rw [hw9]; clear hw9 w9)
          | (go_at_call 46; refine (hk2 _ _ _ hR6).mono ?_; rintro r w9 ⟨rfl, hw9⟩; rw [hw9]; clear hw9 w9)
          | (go_at_call 47; refine (hk3 _ _ _ _ _ hT6.ch).mono ?_; rintro r w9 ⟨rfl, hw9⟩; rw [hw9]; clear hw9 w9)
          | (go_at_call 48; refine (hk4 _ _ _ hR6).mono ?_; rintro r w9 ⟨rfl, hw9⟩; rw [hw9]; clear hw9 w9)
          | (go_at_call 49; refine hLk.mono ?_; rintro r w7 ⟨v7, M1, rfl, hp1, hr1, ⟨q7, cap7, rfl, hrow7⟩, hg7⟩)
          | go_in)
        obtain rfl : M1 = M := fst_unique hr1 hr (hp1.trans hp.symm)
        have hT7 := hT6.kept hg7
        have hR7 := hR6.kept hg7 (by simp) (by simp)
        have f1 := hg7.cell e1 (by simp)
        obtain ⟨qr, capr, hcr, _, _, _, hfr⟩ := hR7.form
        obtain ⟨kz, z, hez⟩ := hT6.ch.ends fa
        have hlast : ∀ nq, Calls Try.prog 50 #[.pointer (some ⟨C, 0, none⟩), .int .i64 fa] (w7.drewN nq) fun r w' => r = .returned (.int .i64 z) ∧ w' = w7.drewN nq := fun nq => last_calls C bt bf (i + 1) L' fa kz z _ (hT7.kept (GrowBut.drewN _ _ _)).ch hez hfa
        have hrlast : ∀ nq, Calls Try.prog 51 #[.pointer (some ⟨R, 0, none⟩), .int .i64 fa] (w7.drewN nq) fun r w' => r = .returned (.int .i64 z) ∧ w' = w7.drewN nq := fun nq => rlast_calls base R M1 fa kz z _ (hR7.kept (GrowBut.drewN _ _ []) (by simp) (by simp)) hr1.nodup (hez.perm hp) (by omega)
        clear hk1 hk2 hk3 hk4 hLk hR6 hT6 hez hp hr hp1 hr1 e1 e2
        go_quiet (first
          | (go_at_call 50; refine Calls.quiet_of_same (hlast _))
          | (go_at_call 51; refine Calls.quiet_of_same (hrlast _))
          | fail)
        clear hlast hrlast f1
        have hgq : GrowBut w7 (w7.drewN nq) [] := GrowBut.drewN _ _ _
        generalize w7.drewN nq = w8 at hgq ⊢
        have hMI : (M1.length : Int) ≤ 1000 := by omega
        go_wp2_with go_in
        go_loopw [20] (fun v20 wy => ∃ k : Nat, v20 = .int .i64 k ∧ k ≤ M1.length ∧ GrowBut w7 wy []) (fun v20 _ => M1.length - (match v20 with | .int _ k => k.toNat | _ => 0))
        case atStart => exact ⟨0, rfl, by omega, hgq⟩
        case round =>
          obtain ⟨k, rfl, hk, hgk⟩ := hrel
          by_cases hkl : k < M1.length
          · obtain ⟨g7, rfl, _, _, hx7, hy7⟩ := hrow7 k hkl
            obtain ⟨gr, rfl, hxr, hyr⟩ : ∃ g, qr = some ⟨g, 0, none⟩ ∧ w7.cell? ⟨g, k * 2, none⟩ = some (.int .i64 (M1[k]).1) ∧ w7.cell? ⟨g, k * 2 + 1, none⟩ = some (.int .i64 (M1[k]).2) := by
              rcases hfr with ⟨rfl, _⟩ | ⟨g, e, _, _, h3⟩
              · simp at hkl
              · exact ⟨g, e, h3 k hkl⟩
            replace hx7 := hgk.cell hx7 (by simp)
            replace hy7 := hgk.cell hy7 (by simp)
            replace hxr := hgk.cell hxr (by simp)
            replace hyr := hgk.cell hyr (by simp)
            have hcr' := hgk.cell hcr (by simp)
            generalize (M1[k]).1 = xx at hx7 hxr
            generalize (M1[k]).2 = yy at hy7 hyr
            have hqx := eqPair xx yy
            have hkl' : (k : Int) < (M1.length : Int) := by omega
            clear hrow7 hfr hcr
            go_wp2_with go_in
            go_quiet (fail)
            go_wp2_with go_in
            exact ⟨⟨k + 1, by simp, by omega, hgk.trans (GrowBut.drewN _ _ _)⟩, by simp; omega⟩
          · have hge : ¬ (k : Int) < (M1.length : Int) := by omega
            clear hrow7 hfr
            go_wp2_with go_in
            exact ⟨⟨i + 1, L', by simp, by omega, hT7.kept hgk⟩, by simp; omega⟩
      · have hs4' : ¬ (s : Int) = 4 := by omega
        have hsb : ((s : Int) == 4) = false := beq_eq_false_iff_ne.2 hs4'
        go_upto_region 15 with go_in
        have hTd := hTa.kept (GrowBut.drew wx [])
        obtain ⟨M0, hp0, hr0, hR0⟩ := hTd.ref
        obtain ⟨ans, L', hl', hA, hB⟩ := call_both (base := base) (R := R) hTd.ch hp0 hr0 fa ta hfa hta (by omega) hTd.len
        go_region_held3 (fun w' => w'.cell? ⟨o, 1, none⟩ = some (.int .i64 fa) ∧ w'.cell? ⟨o, 2, none⟩ = some (.int .i64 ta)) (first | go_keep | (exact ⟨d1, d2⟩) | (exact ⟨e1, e2⟩))
          (first
            | (go_at_call 43; refine hA.mono ?_; rintro r w5 ⟨rfl, hC5, hg5⟩; obtain ⟨hR5, hb5⟩ := hTd.mid hR0 hg5; have hB5 := hB w5 hR5 hb5; have d1 := hg5.cell (a := ⟨o, 1, none⟩) co1 (by have := hoc; simp; omega); have d2 := hg5.cell (a := ⟨o, 2, none⟩) co2 (by have := hoc; simp; omega))
            | (go_at_call 44; refine hB5.mono ?_; rintro r w6 ⟨rfl, hM6, hg6⟩; have hT6 := hTd.step hl' hC5 hg5 hM6 hg6; have e1 := hg6.cell d1 (by have := hoc; simp; omega); have e2 := hg6.cell d2 (by have := hoc; simp; omega))
            | fail)
        clear hA hB hB5 hR5 hC5 hM6 hR0 hp0 hr0 hTa hTd co0 co1 co2 d1 d2
        obtain ⟨M, hp, hr, hR6⟩ := hT6.ref
        obtain ⟨x1, y1, hk1, hk2⟩ := caller_both hp hT6.ch.ns ta hta
        obtain ⟨x2, y2, hk3, hk4⟩ := callee_both hp hr fa hfa
        have hLk := linksS_calls C bt bf (i + 1) L' w6 hT6.ch (by omega)
        have hM : M.length ≤ 1000 := by have := hp.length_eq; have := hT6.len; omega
        go_upto_region 22 with (first
          | (go_at_call 45; refine (hk1 _ _ _ _ _ hT6.ch).mono ?_; rintro r w9 ⟨rfl, hw9⟩; rw [hw9]; clear hw9 w9)
          | (go_at_call 46; refine (hk2 _ _ _ hR6).mono ?_; rintro r w9 ⟨rfl, hw9⟩; rw [hw9]; clear hw9 w9)
          | (go_at_call 47; refine (hk3 _ _ _ _ _ hT6.ch).mono ?_; rintro r w9 ⟨rfl, hw9⟩; rw [hw9]; clear hw9 w9)
          | (go_at_call 48; refine (hk4 _ _ _ hR6).mono ?_; rintro r w9 ⟨rfl, hw9⟩; rw [hw9]; clear hw9 w9)
          | (go_at_call 49; refine hLk.mono ?_; rintro r w7 ⟨v7, M1, rfl, hp1, hr1, ⟨q7, cap7, rfl, hrow7⟩, hg7⟩)
          | go_in)
        obtain rfl : M1 = M := fst_unique hr1 hr (hp1.trans hp.symm)
        have hT7 := hT6.kept hg7
        have hR7 := hR6.kept hg7 (by simp) (by simp)
        have f1 := hg7.cell e1 (by simp)
        obtain ⟨qr, capr, hcr, _, _, _, hfr⟩ := hR7.form
        obtain ⟨kz, z, hez⟩ := hT6.ch.ends fa
        have hlast : ∀ nq, Calls Try.prog 50 #[.pointer (some ⟨C, 0, none⟩), .int .i64 fa] (w7.drewN nq) fun r w' => r = .returned (.int .i64 z) ∧ w' = w7.drewN nq := fun nq => last_calls C bt bf (i + 1) L' fa kz z _ (hT7.kept (GrowBut.drewN _ _ _)).ch hez hfa
        have hrlast : ∀ nq, Calls Try.prog 51 #[.pointer (some ⟨R, 0, none⟩), .int .i64 fa] (w7.drewN nq) fun r w' => r = .returned (.int .i64 z) ∧ w' = w7.drewN nq := fun nq => rlast_calls base R M1 fa kz z _ (hR7.kept (GrowBut.drewN _ _ []) (by simp) (by simp)) hr1.nodup (hez.perm hp) (by omega)
        clear hk1 hk2 hk3 hk4 hLk hR6 hT6 hez hp hr hp1 hr1 e1 e2
        go_quiet (first
          | (go_at_call 50; refine Calls.quiet_of_same (hlast _))
          | (go_at_call 51; refine Calls.quiet_of_same (hrlast _))
          | fail)
        clear hlast hrlast f1
        have hgq : GrowBut w7 (w7.drewN nq) [] := GrowBut.drewN _ _ _
        generalize w7.drewN nq = w8 at hgq ⊢
        have hMI : (M1.length : Int) ≤ 1000 := by omega
        go_wp2_with go_in
        go_loopw [20] (fun v20 wy => ∃ k : Nat, v20 = .int .i64 k ∧ k ≤ M1.length ∧ GrowBut w7 wy []) (fun v20 _ => M1.length - (match v20 with | .int _ k => k.toNat | _ => 0))
        case atStart => exact ⟨0, rfl, by omega, hgq⟩
        case round =>
          obtain ⟨k, rfl, hk, hgk⟩ := hrel
          by_cases hkl : k < M1.length
          · obtain ⟨g7, rfl, _, _, hx7, hy7⟩ := hrow7 k hkl
            obtain ⟨gr, rfl, hxr, hyr⟩ : ∃ g, qr = some ⟨g, 0, none⟩ ∧ w7.cell? ⟨g, k * 2, none⟩ = some (.int .i64 (M1[k]).1) ∧ w7.cell? ⟨g, k * 2 + 1, none⟩ = some (.int .i64 (M1[k]).2) := by
              rcases hfr with ⟨rfl, _⟩ | ⟨g, e, _, _, h3⟩
              · simp at hkl
              · exact ⟨g, e, h3 k hkl⟩
            replace hx7 := hgk.cell hx7 (by simp)
            replace hy7 := hgk.cell hy7 (by simp)
            replace hxr := hgk.cell hxr (by simp)
            replace hyr := hgk.cell hyr (by simp)
            have hcr' := hgk.cell hcr (by simp)
            generalize (M1[k]).1 = xx at hx7 hxr
            generalize (M1[k]).2 = yy at hy7 hyr
            have hqx := eqPair xx yy
            have hkl' : (k : Int) < (M1.length : Int) := by omega
            clear hrow7 hfr hcr
            go_wp2_with go_in
            go_quiet (fail)
            go_wp2_with go_in
            exact ⟨⟨k + 1, by simp, by omega, hgk.trans (GrowBut.drewN _ _ _)⟩, by simp; omega⟩
          · have hge : ¬ (k : Int) < (M1.length : Int) := by omega
            clear hrow7 hfr
            go_wp2_with go_in
            exact ⟨⟨i + 1, L', by simp, by omega, hT7.kept hgk⟩, by simp; omega⟩
    · have hge : ¬ (i : Int) < (n : Int) := by omega
      have hgw := hT.grow
      clear hT hz
      go_wp2_with (first
        | (go_at_call 41; refine (answer_nil _ _).mono ?_; rintro r w9 ⟨rfl, hw9⟩; rw [hw9]; clear hw9 w9)
        | (go_at_call 45; refine (caller_nil _ _).mono ?_; rintro r w9 ⟨rfl, hw9⟩; rw [hw9]; clear hw9 w9)
        | (go_at_call 47; refine (callee_nil _ _).mono ?_; rintro r w9 ⟨rfl, hw9⟩; rw [hw9]; clear hw9 w9)
        | (go_at_call 43; refine (call_nil _).mono ?_; rintro r w9 ⟨rfl, hw9⟩; rw [hw9]; clear hw9 w9)
        | (go_at_call 50; refine (last_nil _ _).mono ?_; rintro r w9 ⟨rfl, hw9⟩; rw [hw9]; clear hw9 w9)
        | (go_at_call 49; refine (links_nil _).mono ?_; rintro r w9 ⟨rfl, hw9⟩; rw [hw9]; clear hw9 w9)
        | go_in)
      go_ret
      exact ⟨rfl, hgw.keepAll⟩

end Go.Proofs.Ytlgfopfibopcnaa
