/-
  Package span: Of, as rows.
-/
import Derived.Test.YtonbcchdaboigaaSpanQ
import Derived.Deep.Onto
namespace Go.Proofs.Ytonbcchdaboigaa
open Go Go.RowKit Go.Maps Go.Am Go.Fl
set_option linter.unusedVariables false

/-- Rows as they lie in memory, as spans. -/
def encS (R : List (Nat × Nat)) : List Value := R.flatMap fun r => [.int .i64 r.1, .int .i64 r.2]

theorem GrowBut.of_rowZ {a b : World} {o : Option Nat} (h : a.grownBy b o) : GrowBut a b o.toList :=
  ⟨h.os, h.tape, h.output, h.size, fun j hj hn => h.block j hj (fun e => hn (by rw [← e]; simp))⟩

theorem F_zero : F 0 = 0 := by kernel_rfl

theorem F_one : F 1 = 4607182418800017408 := by kernel_rfl

theorem sum_one {a c : Nat} (ha : a < 8000) (hc : c < 8000) (w : World) : (binOp .add 109 (.complex .f64 (F a) (F c)) (.complex .f64 0 4607182418800017408)).run Try.prog w = .ok (.complex .f64 (F a) (F (c + 1))) w := by
  refine run_complex_sum w .add (.inl rfl) _ _ _ _ _ _ _ _ ?_
  have h1 := F_add (a := a) (c := 0) (by omega) (by omega) (by omega)
  have h2 := F_add (a := c) (c := 1) (by omega) (by omega) (by omega)
  rw [F_zero, Nat.add_zero] at h1
  rw [F_one] at h2
  unfold cSumBits
  rw [h1, h2]
  rfl

theorem fl_add {a c : Nat} (ha : a < 4097) (hc : c < 4097) (w : World) : (binOp .add 108 (.float .f64 (F a)) (.float .f64 (F c))).run Try.prog w = .ok (.float .f64 (F (a + c))) w := by
  have h := F_add (a := a) (c := c) (by omega) (by omega) (by omega)
  exact run_floatArith w h

theorem fl_eq {a c : Nat} (ha : a < 8200) (hc : c < 8200) (w : World) : (binOp .eql 108 (.float .f64 (F a)) (.float .f64 (F c))).run Try.prog w = .ok (.bool (decide (a = c))) w := by
  rw [binOp_float_cmp_eql, F_order ha hc]; rfl

theorem map_snoc (R' : List (Nat × Nat)) (r : Nat × Nat) : (R' ++ [r]).map encR = R'.map encR ++ [encR r] := by simp

theorem step_same (R' : List (Nat × Nat)) (r : Nat × Nat) (p : Nat) (h : r.1 + r.2 = p) : stepS (R' ++ [r]) p = R' ++ [(r.1, r.2 + 1)] := by
  unfold stepS
  rw [List.getLast?_append]
  simp [h]

theorem step_new (R' : List (Nat × Nat)) (r : Nat × Nat) (p : Nat) (h : r.1 + r.2 ≠ p) : stepS (R' ++ [r]) p = (R' ++ [r]) ++ [(p, 1)] := by
  unfold stepS
  rw [List.getLast?_append]
  simp [h]

theorem set_last (R' : List (Nat × Nat)) (r r2 : Nat × Nat) : ((R' ++ [r]).map encR).set R'.length (encR r2) = (R' ++ [r2]).map encR := by
  rw [map_snoc, map_snoc]
  rw [List.set_append_right _ _ (by simp)]
  simp

theorem rowR_open {w : World} {base : Nat} {v : Value} {R : List (Nat × Nat)} (hrow : w.ownsRow base 109 1 v R.length (R.map encR)) : ∃ s cap g, v = .slice s R.length cap ∧ (0 < R.length → s = some ⟨g, 0, none⟩ ∧ g < w.heap.size ∧ ∀ i, i < R.length → w.cell? ⟨g, i, none⟩ = some (encR (R.getD i (0, 0)))) := by
  obtain ⟨s, cap, rfl⟩ := row_form hrow
  rcases Nat.eq_zero_or_pos R.length with h0 | h0
  · exact ⟨s, cap, 0, rfl, fun h => by omega⟩
  · obtain ⟨g, cap', hv, _, hgl⟩ := row_block hrow h0
    cases hv
    refine ⟨_, _, g, rfl, fun _ => ⟨rfl, hgl, fun i hi => ?_⟩⟩
    rw [hrow.cellAt i (by omega), List.getElem?_map, List.getD_eq_getElem?_getD, List.getElem?_eq_getElem hi]; rfl

theorem encS_snoc (R : List (Nat × Nat)) (r : Nat × Nat) : encS (R ++ [r]) = encS R ++ [.int .i64 r.1, .int .i64 r.2] := by simp [encS]

theorem cell_two_new (w : World) (x y : Value) (t : TypeId) : ∀ (j : Nat) u, ([x, y] : List Value)[j]? = some u → (w.alloc (.cells #[x, y] t)).cell? ((⟨w.heap.size, 0, none⟩ : Addr).add j) = some u := by
  intro j u h
  match j with
  | 0 => simp at h; subst h; simp only [Addr.add]; go_simp
  | 1 => simp at h; subst h; simp only [Addr.add]; go_simp
  | n + 2 => simp at h

theorem takeR_snoc {l : List (Nat × Nat)} {j : Nat} (h : j < l.length) : l.take (j + 1) = l.take j ++ [l.getD j (0, 0)] := by
  rw [List.take_add_one, List.getElem?_eq_getElem h, List.getD_eq_getElem?_getD, List.getElem?_eq_getElem h]; rfl

/-- The rows of pages. -/
def ofS (zs : List Int) : List (Nat × Nat) := rowsS (pgs (tidy zs))

theorem infoSp : (Try.prog.info? 64).map (fun i => (i.zero, i.size, i.bytes)) = some (some (.agg #[.int .i64 0, .int .i64 0]), 2, 16) := by kernel_rfl

set_option maxRecDepth 100000 in
set_option maxHeartbeats 4000000 in
theorem of_calls (b off c : Nat) (zs : List Int) (w : World) (hc : ∀ j, j < zs.length → w.cell? ⟨b, off + j, none⟩ = some (.int .i64 (zs.getD j 0))) (hl : zs.length ≤ 1000) :
    Calls Try.prog 18 #[.slice (some ⟨b, off, none⟩) zs.length c] w fun e w' => ∃ v, e = .returned v ∧ w'.ownsRow w.heap.size 64 2 v (ofS zs).length (encS (ofS zs)) ∧ GrowBut w w' [] := by
  have hCl := cloneT b off c zs w hc hl
  go_enter Try.func18, Try.ntmps18
  go_upto_region 5 with (first
    | (go_at_call 72; refine hCl.mono ?_; clear hCl; rintro e w1 ⟨g, cap, rfl, hrow1, hg, hcap, hg1⟩; have hgl1 := (hrow1.lt g (by simp [Value.ownBlock])).2; have hS := sortT hrow1 (by omega))
    | (go_at_call 73; refine hS.mono ?_; clear hS; rintro e w2 ⟨rfl, hrow2, hg2⟩; have hlen : (zs.mergeSort (fun x y => decide (x ≤ y))).length = zs.length := List.length_mergeSort zs; have hK := compactR (ss := zs.mergeSort (fun x y => decide (x ≤ y))) (by rw [hlen]; exact hrow2) (by omega); rw [hlen] at hK)
    | (go_at_call 74; refine hK.mono ?_; clear hK; rintro e w3 ⟨rfl, hcell3, hg3⟩)
    | go_in)
  change ∀ j, j < (tidy zs).length → w3.cell? ⟨g, j, none⟩ = some (.int .i64 ((tidy zs).getD j 0)) at hcell3
  have hG03 : GrowBut w w3 [] := hg1.from (hg2.trans hg3) (fun x hx => .inr (by simp at hx; omega))
  have hlT : (tidy zs).length ≤ 1000 := by have := compact_len (zs.mergeSort fun x y => decide (x ≤ y)); rw [hlen] at this; exact Nat.le_trans this hl
  have hs3 := hg2.size
  have hs3' := hg3.size
  have hgl : g < w3.heap.size := by omega
  change ∀ j, j < (tidy zs).length → _ at hcell3
  have hlenT : (Lib.compact (zs.mergeSort fun x y => decide (x ≤ y))).length = (tidy zs).length := rfl
  simp only [hlenT]
  have hfin : ofS zs = rowsS (pgs (tidy zs)) := rfl
  clear hrow1 hrow2 hc hlen hlenT hgl1 hs3 hs3' hg1 hg2 hg3 hl
  generalize tidy zs = T at hcell3 hlT hfin ⊢
  have hws := hG03.size
  have hL0 := World.ownsRow_nil w3 w3.heap.size 109 1
  generalize hW3 : w3.heap.size = H at hgl hws hL0
  go_loopw [4, 17] (fun v4 v17 wx => ∃ j : Nat, v17 = .int .i64 j ∧ j ≤ T.length ∧ wx.ownsRow H 109 1 v4 (rowsS (pgs (T.take j))).length ((rowsS (pgs (T.take j))).map encR) ∧ GrowBut w3 wx []) (fun _ v17 _ => T.length - intOf v17)
  case atStart => exact ⟨0, rfl, by omega, hL0, .refl _ _⟩
  case round =>
    obtain ⟨j, rfl, hj, hrow, hG⟩ := hrel
    by_cases hlt : j < T.length
    · have hlt' : (j : Int) < (T.length : Int) := by omega
      have c0 := hG.cell (hcell3 j hlt) (by simp)
      have htk := take_succ_getD hlt
      have hRl : (rowsS (pgs (T.take j))).length ≤ 1000 := Nat.le_trans (rowsS_le _) (Nat.le_trans (pgs_le _) (by simp; omega))
      have hRok := rows_ok (pgs (T.take j)) pgs_lt
      generalize T.getD j 0 = x at c0 htk
      by_cases hx : 0 ≤ x ∧ x < 4096
      · obtain ⟨p, rfl⟩ : ∃ p : Nat, x = (p : Int) := ⟨x.toNat, by omega⟩
        have hpb : p < 4096 := by omega
        have hp0 : ¬ (p : Int) < 0 := by omega
        have hp1 : ¬ (4096 : Int) ≤ (p : Int) := by omega
        have hsnoc : rowsS (pgs (T.take (j + 1))) = stepS (rowsS (pgs (T.take j))) p := by
          rw [htk, pgs_snoc_in hpb, rowsS_snoc]
        clear htk hx
        generalize rowsS (pgs (T.take j)) = R at hrow hsnoc hRl hRok
        have hRow := fun w5 => row_calls p 1 w5
        simp only [Int.natCast_one, encR] at hRow
        obtain ⟨i0, hi, hz0, hz1, hz2⟩ := info_parts infoC
        have hgsz := hG.size
        have hlo4 : ∀ x ∈ u4.ownBlock.toList, H ≤ x := fun x hx => (hrow.lt x (by simpa using hx)).1
        rcases List.eq_nil_or_concat R with rfl | ⟨R', r, rfl⟩
        · obtain ⟨s, cap, rfl⟩ := row_form hrow
          have hs : stepS [] p = [(p, 1)] := rfl
          rw [hs] at hsnoc
          clear hs hRok hRl
          go_upto_region 10 with go_in
          go_quiet (fail)
          have hrow4 := (GrowBut.drewN wr nq []).row hrow (by simp)
          have hG4 := hG.trans (GrowBut.drewN wr nq [])
          generalize wr.drewN nq = w4 at hrow4 hG4 ⊢
          have hs4 := hG4.size
          go_wp2_with (first
            | (go_at_call 75; (refine (hRow _).mono ?_; rintro e w5 ⟨rfl, hg5⟩; have hs5 := hg5.size; have hrow5 := hg5.row hrow4 (by simp)))
            | (at_builtin; refine wpList_append_own _ rfl _ _ 107 rfl H 109 i0 (.complex .f64 0 0) 1 16 Try.underlying107 hi hz0 hz1 hz2 rfl (by decide) _ _ _ rfl (hrow5.alloc _) ⟨w5.heap.size, 0, none⟩ 1 1 [.complex .f64 (F p) (F 1)] rfl rfl (cell_one_new _ _ _) (by simp [Value.oneCell']) (by simp; unfold maxLen; omega) (by simp) (by simp; omega) ?_; intro v' w6 hown' hg6 hnil6; go_frame)
            | go_in)
          have hG6 := (GrowBut.alloc w5 (.cells #[.complex .f64 (F p) (F 1)] 109) _).trans (GrowBut.of_rowZ (o := (Value.slice s 0 cap).ownBlock) hg6)
          exact ⟨⟨j + 1, by simp, by omega, by rw [hsnoc]; exact hown', (hG4.trans hg5).from hG6 (fun x hx => .inr (by have := hlo4 x hx; omega))⟩, by simp [intOf]; omega⟩
        · rw [List.concat_eq_append] at hrow hsnoc hRok hRl
          obtain ⟨gg, cap, rfl, hgb, hggl⟩ := row_block hrow (by simp)
          have hn : (R' ++ [r]).length = R'.length + 1 := by simp
          have hr := hRok r (by simp)
          have hcl := hrow.cellAt R'.length (by simp)
          have hfz := hrow.frozenAt R'.length
          rw [map_snoc, List.getElem?_append_right (by simp)] at hcl
          simp only [List.length_map, Nat.sub_self, List.getElem?_cons_zero, encR] at hcl
          rw [hn] at hrow hRl ⊢
          obtain ⟨N, hN⟩ : ∃ N, N = R'.length + 1 := ⟨_, rfl⟩
          rw [← hN] at hrow hRl ⊢
          have hlast : (N : Int) - 1 = R'.length := by omega
          have hin : (R'.length : Int) < (N : Int) := by omega
          have hin2 : ¬ (N : Int) ≤ (R'.length : Int) := by omega
          have hN2 : N ≤ R'.length + 1 ∧ R'.length + 1 ≤ N := by omega
          clear hN hn
          have hwrp := IntWalk.i64_in (R'.length : Int) (by omega)
          have hadd := fl_add (a := r.1) (c := r.2) (by omega) (by omega)
          have hord := F_order (a := r.1 + r.2) (c := p) (by omega) (by omega)
          have hFp : floatOfInt .f64 (p : Int) = F p := rfl
          have hcd : wr.drew.cell? ⟨gg, R'.length, none⟩ = some (.complex .f64 (F r.1) (F r.2)) := hcl
          have hpos : 0 < N := by omega
          have hsum := sum_one (a := r.1) (c := r.2) (by omega) (by omega)
          by_cases he : r.1 + r.2 = p
          · rw [decide_eq_true he] at hord
            have hs1 := step_same R' r p he
            rw [hs1] at hsnoc
            clear he hs1
            go_upto_region 10 with go_in
            go_quiet (fail)
            have hG4 := hG.trans (GrowBut.drewN wr nq [])
            have hrow4 := (GrowBut.drewN wr nq []).row hrow (by simp)
            generalize wr.drewN nq = w4 at hrow4 hG4 ⊢
            have hc4 := hrow4.cellAt R'.length (by omega)
            have hf4 := hrow4.frozenAt R'.length
            rw [map_snoc, List.getElem?_append_right (by simp)] at hc4
            simp only [List.length_map, Nat.sub_self, List.getElem?_cons_zero, encR] at hc4
            obtain ⟨hst, hgs⟩ := hrow4.stored R'.length (encR (r.1, r.2 + 1))
            rw [set_last] at hst
            simp only [encR] at hst hgs
            have hsum4 := hsum w4
            have hsto : (store ⟨gg, R'.length, none⟩ (.complex .f64 (F r.1) (F (r.2 + 1)))).run Try.prog w4 = .ok () (w4.setCell ⟨gg, R'.length, none⟩ (.complex .f64 (F r.1) (F (r.2 + 1)))) := by
              rw [run_store _ _ _ _ _ rfl]
              simp [hc4, hf4]
            go_wp2_with go_in
            have hfin2 : (R' ++ [(r.1, r.2 + 1)]).length = N := by simp; omega
            exact ⟨⟨j + 1, by simp, by omega, by rw [hsnoc, hfin2]; exact hst, hG4.from (.of_some hgs) (fun x hx => .inr (by simp at hx; omega))⟩, by simp [intOf]; omega⟩
          · rw [decide_eq_false he] at hord
            have hs1 := step_new R' r p he
            rw [hs1] at hsnoc
            clear he hs1
            go_upto_region 10 with go_in
            go_quiet (fail)
            have hG4 := hG.trans (GrowBut.drewN wr nq [])
            have hrow4 := (GrowBut.drewN wr nq []).row hrow (by simp)
            generalize wr.drewN nq = w4 at hrow4 hG4 ⊢
            have hs4 := hG4.size
            clear hcl hfz hcd hadd hord hsum
            generalize hRR : R' ++ [r] = RR at hrow hrow4 hsnoc
            have hRRl : RR.length = N := by rw [← hRR]; simp; omega
            go_wp2_with (first
              | (go_at_call 75; (refine (hRow _).mono ?_; rintro e w5 ⟨rfl, hg5⟩; have hs5 := hg5.size; have hrow5 := hg5.row hrow4 (by simp)))
              | (at_builtin; refine wpList_append_own _ rfl _ _ 107 rfl H 109 i0 (.complex .f64 0 0) 1 16 Try.underlying107 hi hz0 hz1 hz2 rfl (by decide) _ _ _ rfl (hrow5.alloc _) ⟨w5.heap.size, 0, none⟩ 1 1 [.complex .f64 (F p) (F 1)] rfl rfl (cell_one_new _ _ _) (by simp [Value.oneCell']) (by unfold maxLen; omega) (by omega) (by simp; omega) ?_; intro v' w6 hown' hg6 hnil6; go_frame)
              | go_in)
            have hG6 := (GrowBut.alloc w5 (.cells #[.complex .f64 (F p) (F 1)] 109) _).trans (GrowBut.of_rowZ (o := (Value.slice (some ⟨gg, 0, none⟩) N cap).ownBlock) hg6)
            exact ⟨⟨j + 1, by simp, by omega, by rw [hsnoc, List.length_append, hRRl, List.map_append]; exact hown', (hG4.trans hg5).from hG6 (fun x hx => .inr (by have := hlo4 x hx; omega))⟩, by simp [intOf]; omega⟩
      · have hx2 : pgs (T.take (j + 1)) = pgs (T.take j) := by rw [htk, pgs_snoc_out hx]
        obtain ⟨s, cap, rfl⟩ := row_form hrow
        by_cases hx0 : x < 0
        · go_wp2_with go_in
          exact ⟨⟨j + 1, by simp, by omega, by rw [hx2]; exact hrow, hG⟩, by simp [intOf]; omega⟩
        · have hx1 : (4096 : Int) ≤ x := by omega
          go_wp2_with go_in
          exact ⟨⟨j + 1, by simp, by omega, by rw [hx2]; exact hrow, hG⟩, by simp [intOf]; omega⟩
    · have hjl : j = T.length := by omega
      subst hjl
      rw [List.take_length] at hrow
      have hRok := rows_ok (pgs T) pgs_lt
      have hRl : (rowsS (pgs T)).length ≤ 1000 := Nat.le_trans (rowsS_le _) (Nat.le_trans (pgs_le _) hlT)
      rw [← hfin] at hrow hRok hRl
      obtain ⟨R, hR⟩ : ∃ R, ofS zs = R := ⟨_, rfl⟩
      rw [hR] at hrow hRok hRl
      clear hfin
      obtain ⟨wA, hwA⟩ : ∃ wA, wr = wA := ⟨_, rfl⟩
      subst wr
      have hGr := hG03.trans hG
      have hGrs := hGr.size
      obtain ⟨j0, hj0, jz0, jz1, jz2⟩ := info_parts infoSp
      obtain ⟨s, cap, gg, rfl, hop⟩ := rowR_open hrow
      clear hrow hL0
      have hL0 := World.ownsRow_nil wA wA.heap.size 64 2
      go_wp2_with fail
      go_loopw [2, 67] (fun v2 v67 wx => ∃ k : Nat, v67 = .int .i64 k ∧ k ≤ R.length ∧ wx.ownsRow wA.heap.size 64 2 v2 k (encS (R.take k)) ∧ GrowBut wA wx []) (fun _ v67 _ => R.length - intOf v67)
      case atStart => exact ⟨0, rfl, by omega, hL0, .refl _ _⟩
      case round =>
        obtain ⟨k, rfl, hk, hrow, hGx⟩ := hrel
        by_cases hlk : k < R.length
        · have hlk' : (k : Int) < (R.length : Int) := by omega
          obtain ⟨rfl, hggl, hcs⟩ := hop (by omega)
          have c0 := hGx.cell (hcs k hlk) (by simp)
          have htk := takeR_snoc hlk
          have hm : R.getD k (0, 0) ∈ R := by rw [List.getD_eq_getElem?_getD, List.getElem?_eq_getElem hlk]; simp
          have hr := hRok _ hm
          clear hcs hop hm
          generalize R.getD k (0, 0) = r at c0 htk hr
          have hcall := span_calls r.1 r.2 (by omega) (by omega) wr
          have hlo2 : ∀ x ∈ u2.ownBlock.toList, wA.heap.size ≤ x := fun x hx => (hrow.lt x (by simpa using hx)).1
          have hGxs := hGx.size
          simp only [encR] at c0 hcall
          generalize F r.1 = f1 at c0 hcall
          generalize F r.2 = f2 at c0 hcall
          go_wp2_with (first
            | (go_at_call 76; (refine hcall.mono ?_; rintro e w5 ⟨rfl, hg5⟩; have hs5 := hg5.size; have hrow5 := hg5.row hrow (by simp)))
            | (at_builtin; (refine wpList_append_own _ rfl _ _ 22 rfl wA.heap.size 64 j0 (.agg #[.int .i64 0, .int .i64 0]) 2 16 Try.underlying22 hj0 jz0 jz1 jz2 rfl (by decide) _ _ _ rfl (hrow5.alloc _) ⟨w5.heap.size, 0, none⟩ 1 1 [.int .i64 r.1, .int .i64 r.2] rfl rfl (cell_two_new _ _ _ _) (by simp [Value.oneCell']) (by unfold maxLen at *; omega) (by omega) (by simp; omega) ?_; intro v' w6 hown' hg6 hnil6; go_frame))
            | fail)
          have hG6 := (GrowBut.alloc w5 (.cells #[.int .i64 r.1, .int .i64 r.2] 64) _).trans (GrowBut.of_rowZ (o := u2.ownBlock) hg6)
          exact ⟨⟨k + 1, by simp, by omega, by rw [htk, encS_snoc]; exact hown', (hGx.trans hg5).from hG6 (fun x hx => .inr (hlo2 x hx))⟩, by simp [intOf]; omega⟩
        · have hge : ¬ (k : Int) < (R.length : Int) := by omega
          have hkl : k = R.length := by omega
          subst hkl
          rw [List.take_length] at hrow
          go_wp2_with fail
          go_ret
          first | rw [hR] | skip
          exact ⟨u2, rfl, by simpa [hR] using hrow.mono hGrs, hGr.trans hGx⟩

end Go.Proofs.Ytonbcchdaboigaa
