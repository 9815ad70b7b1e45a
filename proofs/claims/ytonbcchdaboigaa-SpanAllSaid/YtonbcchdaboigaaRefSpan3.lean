/-
  The reference's rows of pages: Of.
-/
import Derived.Test.YtonbcchdaboigaaRefSpan2
namespace Go.Proofs.Ytonbcchdaboigaa
open Go Go.RowKit Go.Maps Go.Am
set_option linter.unusedVariables false

/-- Pages below p. -/
def pgU (zs : List Int) (p : Nat) : List Nat := (List.range p).filter (inB zs)

theorem pgU_succ (zs : List Int) (p : Nat) : pgU zs (p + 1) = pgU zs p ++ (if inB zs p = true then [p] else []) := by
  unfold pgU
  rw [List.range_succ, List.filter_append]
  congr 1
  by_cases h : inB zs p = true <;> simp [h]

theorem pgU_rises (zs : List Int) (p : Nat) : (pgU zs p).Pairwise (· < ·) := List.pairwise_lt_range.filter _

theorem mem_pgU {zs : List Int} {p i : Nat} : i ∈ pgU zs p ↔ i < p ∧ (i : Int) ∈ zs := by
  unfold pgU inB
  rw [List.mem_filter, List.mem_range, decide_eq_true_eq]

theorem rising_eqN {L M : List Nat} (hL : L.Pairwise (· < ·)) (hM : M.Pairwise (· < ·)) (h : ∀ k, k ∈ L ↔ k ∈ M) : L = M := by
  have hp : L.Perm M := (List.perm_ext_iff_of_nodup (hL.imp fun h => by omega) (hM.imp fun h => by omega)).2 h
  exact List.Perm.eq_of_pairwise (le := fun a b : Nat => a ≤ b) (fun a b _ _ h1 h2 => Nat.le_antisymm h1 h2) (hL.imp fun h => by omega) (hM.imp fun h => by omega) hp

theorem mem_pgs {l : List Int} {i : Nat} : i ∈ pgs l ↔ i < 4096 ∧ (i : Int) ∈ l := by
  unfold pgs
  rw [List.mem_map]
  constructor
  · rintro ⟨x, hx, rfl⟩
    obtain ⟨h1, h2⟩ := List.mem_filter.1 hx
    rw [decide_eq_true_eq] at h2
    have e : ((x.toNat : Nat) : Int) = x := by omega
    exact ⟨by omega, by rw [e]; exact h1⟩
  · rintro ⟨h1, h2⟩
    exact ⟨(i : Int), List.mem_filter.2 ⟨h2, by rw [decide_eq_true_eq]; omega⟩, by simp⟩

theorem pgs_rises {l : List Int} (h : l.Pairwise (· < ·)) : (pgs l).Pairwise (· < ·) := by
  unfold pgs
  refine List.pairwise_map.2 ((h.filter _).imp_of_mem fun {a b} ha hb hab => ?_)
  have h1 := (List.mem_filter.1 ha).2
  have h2 := (List.mem_filter.1 hb).2
  rw [decide_eq_true_eq] at h1 h2
  omega

theorem ofS_pgU (zs : List Int) : ofS zs = rowsS (pgU zs 4096) := by
  have e : pgs (tidy zs) = pgU zs 4096 := rising_eqN (pgs_rises (tidy_rises zs).1) (pgU_rises zs 4096) fun k => by rw [mem_pgs, mem_pgU, (tidy_rises zs).2]
  unfold ofS
  rw [e]

theorem pgU_le (zs : List Int) (p : Nat) : (pgU zs p).length ≤ p := by
  unfold pgU
  exact Nat.le_trans (List.length_filter_le _ _) (by simp)

theorem encS_at (R : List (Nat × Nat)) : ∀ j, (encS R)[j * 2]? = (R[j]?).map (fun x => .int .i64 x.1) ∧ (encS R)[j * 2 + 1]? = (R[j]?).map (fun x => .int .i64 x.2) := by
  induction R with
  | nil => intro j; simp [encS]
  | cons x R ih =>
    intro j
    have e : encS (x :: R) = .int .i64 x.1 :: .int .i64 x.2 :: encS R := by simp [encS]
    rw [e]
    cases j with
    | zero => simp
    | succ j =>
      have := ih j
      rw [show (j + 1) * 2 = j * 2 + 2 by omega]
      simpa using this

theorem encS_len (R : List (Nat × Nat)) : (encS R).length = R.length * 2 := by
  induction R with
  | nil => rfl
  | cons x R ih => simp [encS] at *; omega

theorem encS_set (R' : List (Nat × Nat)) (r : Nat × Nat) : (encS (R' ++ [r])).set (R'.length * 2 + 1) (.int .i64 ((r.2 : Int) + 1)) = encS (R' ++ [(r.1, r.2 + 1)]) := by
  rw [encS_snoc, encS_snoc, List.set_append_right _ _ (by rw [encS_len]; omega), encS_len]
  have : R'.length * 2 + 1 - R'.length * 2 = 1 := by omega
  rw [this]
  simp

theorem step_app {R : List (Nat × Nat)} {p : Nat} (h : ¬ ∃ r, R.getLast? = some r ∧ r.1 + r.2 = p) : stepS R p = R ++ [(p, 1)] := by
  unfold stepS
  cases hl : R.getLast? with
  | none =>
    have : R = [] := List.getLast?_eq_none_iff.1 hl
    subst this; rfl
  | some r =>
    show (if r.1 + r.2 = p then _ else _) = _
    rw [if_neg (fun e => h ⟨r, hl, e⟩)]

set_option maxRecDepth 100000 in
set_option maxHeartbeats 4000000 in
theorem OfR_calls (s : Option Addr) (b off c : Nat) (zs : List Int) (w : World) (hz : 0 < zs.length → s = some ⟨b, off, none⟩ ∧ ∀ j, j < zs.length → w.cell? ⟨b, off + j, none⟩ = some (.int .i64 (zs.getD j 0)) ∧ (Lit.int .i64 (zs.getD j 0)).wf = true) (hl : zs.length ≤ 1000) :
    Calls Try.prog 19 #[.slice s zs.length c] w fun e w' => ∃ v, e = .returned v ∧ w'.ownsRow w.heap.size 64 2 v (ofS zs).length (encS (ofS zs)) ∧ GrowBut w w' [] := by
  have hmm := @run_makeMap Try.prog
  obtain ⟨j0, hj0, jz0, jz1, jz2⟩ := info_parts infoSp
  go_enter Try.func19, Try.ntmps19
  go_wp2_with fail
  clear hmm
  have hM0 := TabAt.made w .i64 3
  have hG0 := GrowBut.alloc w (.map #[] 0) []
  have hsz : (w.alloc (.map #[] 0)).heap.size = w.heap.size + 1 := by simp
  have hSe : (fun _ => none) = seenS (zs.take 0) := by funext k; simp [seenS]
  rw [hSe] at hM0
  generalize w.alloc (.map #[] 0) = w1 at hM0 hG0 hsz ⊢
  generalize hMM : w.heap.size = M at hM0 hsz ⊢
  go_loopw [4] (fun v4 wx => ∃ j : Nat, v4 = .int .i64 j ∧ j ≤ zs.length ∧ TabAt wx .i64 3 M j (seenS (zs.take j)) ∧ GrowBut w1 wx [M]) (fun v4 _ => zs.length - intOf v4)
  case atStart => exact ⟨0, rfl, by omega, hM0, .refl _ _⟩
  case round =>
    obtain ⟨j, rfl, hj, hT, hG⟩ := hrel
    by_cases hlt : j < zs.length
    · have hlt' : (j : Int) < (zs.length : Int) := by omega
      obtain ⟨rfl, hc⟩ := hz (by omega)
      obtain ⟨c0, hwx⟩ := hc j hlt
      have hbl := cell_lt c0
      simp only at hbl
      replace c0 := hG.cell (hG0.cell c0 (by simp)) (by simp; omega)
      have hsn := seenS_snoc (zs.take j) (zs.getD j 0)
      rw [← take_succ_getD hlt] at hsn
      clear hc hz
      generalize zs.getD j 0 = x at c0 hwx hsn
      go_wp2_with (first
        | (at_mapUpdate; (refine wpList_putT rfl _ _ _ 104 rfl hT keyW Try.underlying3 Try.underlying104 (by omega) rfl x (.bool true) rfl rfl hwx ?_; intro w3 hT3 hg3; rw [hsn] at hT3))
        | fail)
      exact ⟨⟨j + 1, by simp, by omega, hT3, hG.trans hg3⟩, by simp [intOf]; omega⟩
    · have hjl : j = zs.length := by omega
      subst hjl
      rw [List.take_length] at hT
      have hge : ¬ (zs.length : Int) < (zs.length : Int) := by omega
      obtain ⟨wA, hwA⟩ : ∃ wA, wr = wA := ⟨_, rfl⟩
      subst wr
      have hwAs := hG.size
      have hofU := ofS_pgU zs
      go_wp2_with fail
      have hL0 := World.ownsRow_nil wA (M + 1) 64 2
      go_loopw [5, 6] (fun v5 v6 wx => ∃ p : Nat, v6 = .int .i64 p ∧ p ≤ 4096 ∧ wx.ownsRow (M + 1) 64 2 v5 (rowsS (pgU zs p)).length (encS (rowsS (pgU zs p))) ∧ GrowBut w1 wx [M] ∧ TabAt wx .i64 3 M zs.length (seenS zs)) (fun _ v6 _ => 4096 - intOf v6)
      case atStart => exact ⟨0, rfl, by omega, hL0, hG, hT⟩
      case round =>
        clear hL0 hG hT
        obtain ⟨p, rfl, hp, hrow, hG, hT⟩ := hrel
        have hGs := hG.size
        by_cases hlp : p < 4096
        · have hlp' : (p : Int) < 4096 := by omega
          have hwp : (Lit.int .i64 (p : Int)).wf = true := wf_small (by omega) (by omega)
          have hls := hT.look (t := 104) (e := 4) keyW Try.underlying3 Try.underlying104 (boolW _) hwp
          rw [seenS_at] at hls
          have hin : decide ((p : Int) ∈ zs) = inB zs p := rfl
          rw [hin] at hls
          have hus := pgU_succ zs p
          cases hb : inB zs p with
          | false =>
            rw [hb] at hls hus
            simp only [Bool.false_eq_true, if_false, List.append_nil] at hus
            go_wp2_with fail
            exact ⟨⟨p + 1, by simp, by omega, by rw [hus]; exact hrow, hG, hT⟩, by simp [intOf]; omega⟩
          | true =>
            rw [hb] at hls hus
            simp only [if_true] at hus
            have hrs : rowsS (pgU zs (p + 1)) = stepS (rowsS (pgU zs p)) p := by rw [hus, rowsS_snoc]
            have hris : (pgU zs p ++ [p]).Pairwise (· < ·) := by rw [← hus]; exact pgU_rises zs (p + 1)
            have hends := ends_iff hris
            have hRl : (rowsS (pgU zs p)).length ≤ 4096 := Nat.le_trans (rowsS_le _) (Nat.le_trans (pgU_le zs p) hp)
            have hRok := rows_ok (pgU zs p) (m := 4096) (fun x hx => by have := (mem_pgU.1 hx).1; omega)
            by_cases hp0 : p = 0
            · have hst : stepS (rowsS (pgU zs p)) p = rowsS (pgU zs p) ++ [(p, 1)] := step_app (fun h => by have := (hends.1 h).1; omega)
              have hpn : decide (0 < (p : Int)) = false := decide_eq_false (by omega)
              have hpn2 : ¬ 0 < p := by omega
              clear hp0
              obtain ⟨s5, cp5, rfl⟩ := row_form hrow
              have hlo5 : ∀ x ∈ (Value.slice s5 (rowsS (pgU zs p)).length cp5).ownBlock.toList, M + 1 ≤ x := fun x hx => (hrow.lt x (by simpa using hx)).1
              have hMn : M ∉ (Value.slice s5 (rowsS (pgU zs p)).length cp5).ownBlock.toList := fun hx => by have := hlo5 M hx; omega
              rw [hst] at hrs
              clear hst hends hris hus hRok
              generalize rowsS (pgU zs p) = R at hrow hrs hRl hlo5 hMn
              go_wp2_with (first
                | (at_builtin; (refine wpList_append_own _ rfl _ _ 22 rfl (M + 1) 64 j0 (.agg #[.int .i64 0, .int .i64 0]) 2 16 Try.underlying22 hj0 jz0 jz1 jz2 rfl (by decide) _ _ _ rfl (hrow.alloc _) ⟨wr.heap.size, 0, none⟩ 1 1 [.int .i64 p, .int .i64 1] rfl rfl (cell_two_new _ _ _ _) (by simp [Value.oneCell']) (by unfold maxLen at *; omega) (by omega) (by simp; omega) ?_; intro v' w6 hown' hg6 hnil6; go_frame))
                | fail)
              have hg6' := (GrowBut.alloc wr (.cells #[.int .i64 p, .int .i64 1] 64) _).trans (GrowBut.of_rowZ (o := (Value.slice s5 R.length cp5).ownBlock) hg6)
              exact ⟨⟨p + 1, by simp, by omega, by rw [hrs, encS_snoc, List.length_append]; exact hown', hG.from hg6' (fun x hx => .inr (by have := hlo5 x hx; omega)), hT.kept hg6' hMn⟩, by simp [intOf]; omega⟩
            · obtain ⟨q, hq⟩ : ∃ q, p = q + 1 := ⟨p - 1, by omega⟩
              have hpn : decide (0 < (p : Int)) = true := decide_eq_true (by omega)
              have hpn2 : 0 < p := by omega
              have hlast : (p : Int) - 1 = (q : Int) := by omega
              have hwrp := IntWalk.i64_in (q : Int) (by omega)
              have hwq : (Lit.int .i64 (q : Int)).wf = true := wf_small (by omega) (by omega)
              have hlq := hT.look (t := 104) (e := 4) keyW Try.underlying3 Try.underlying104 (boolW _) hwq
              rw [seenS_at] at hlq
              have hiq : decide ((q : Int) ∈ zs) = inB zs q := rfl
              rw [hiq] at hlq
              have hpq : p - 1 ∈ pgU zs p ↔ inB zs q = true := by
                rw [mem_pgU, show p - 1 = q by omega]
                unfold inB
                rw [decide_eq_true_eq]
                exact ⟨fun h => h.2, fun h => ⟨by omega, h⟩⟩
              cases hbq : inB zs q with
              | false =>
                rw [hbq] at hlq
                have hst : stepS (rowsS (pgU zs p)) p = rowsS (pgU zs p) ++ [(p, 1)] := step_app (fun h => by
                  have := hpq.1 (hends.1 h).2
                  rw [hbq] at this; cases this)
                clear hp0 hq hpq
                obtain ⟨s5, cp5, rfl⟩ := row_form hrow
                have hlo5 : ∀ x ∈ (Value.slice s5 (rowsS (pgU zs p)).length cp5).ownBlock.toList, M + 1 ≤ x := fun x hx => (hrow.lt x (by simpa using hx)).1
                have hMn : M ∉ (Value.slice s5 (rowsS (pgU zs p)).length cp5).ownBlock.toList := fun hx => by have := hlo5 M hx; omega
                rw [hst] at hrs
                clear hst hends hris hus hRok
                generalize rowsS (pgU zs p) = R at hrow hrs hRl hlo5 hMn
                go_wp2_with (first
                  | (at_builtin; (refine wpList_append_own _ rfl _ _ 22 rfl (M + 1) 64 j0 (.agg #[.int .i64 0, .int .i64 0]) 2 16 Try.underlying22 hj0 jz0 jz1 jz2 rfl (by decide) _ _ _ rfl (hrow.alloc _) ⟨wr.heap.size, 0, none⟩ 1 1 [.int .i64 p, .int .i64 1] rfl rfl (cell_two_new _ _ _ _) (by simp [Value.oneCell']) (by unfold maxLen at *; omega) (by omega) (by simp; omega) ?_; intro v' w6 hown' hg6 hnil6; go_frame))
                  | fail)
                have hg6' := (GrowBut.alloc wr (.cells #[.int .i64 p, .int .i64 1] 64) _).trans (GrowBut.of_rowZ (o := (Value.slice s5 R.length cp5).ownBlock) hg6)
                exact ⟨⟨p + 1, by simp, by omega, by rw [hrs, encS_snoc, List.length_append]; exact hown', hG.from hg6' (fun x hx => .inr (by have := hlo5 x hx; omega)), hT.kept hg6' hMn⟩, by simp [intOf]; omega⟩
              | true =>
                rw [hbq] at hlq
                obtain ⟨r, hr, he⟩ := hends.2 ⟨by omega, hpq.2 hbq⟩
                obtain ⟨R', hR'⟩ := List.getLast?_eq_some_iff.1 hr
                have hr2 := hRok r (by rw [hR']; simp)
                have hst := step_same R' r p he
                rw [hR'] at hrs hrow hRl
                rw [hst] at hrs
                obtain ⟨gg, cp, rfl, hgb, hggl⟩ := row_block hrow (by simp)
                have hn1 : (R' ++ [r]).length = R'.length + 1 := by simp
                have hcl := hrow.cellAt (R'.length * 2 + 1) (by rw [hn1]; omega)
                have hfz := hrow.frozenAt (R'.length * 2 + 1)
                have hat : (encS (R' ++ [r]))[R'.length * 2 + 1]? = some (.int .i64 r.2) := by
                  rw [(encS_at (R' ++ [r]) R'.length).2, List.getElem?_append_right (Nat.le_refl _)]; simp
                rw [hat] at hcl
                obtain ⟨hsto, hgs⟩ := hrow.stored (R'.length * 2 + 1) (.int .i64 ((r.2 : Int) + 1))
                rw [encS_set] at hsto
                rw [hn1] at hrow hsto hRl ⊢
                obtain ⟨N, hN⟩ : ∃ N, N = R'.length + 1 := ⟨_, rfl⟩
                rw [← hN] at hrow hsto hRl ⊢
                have hlast2 : (N : Int) - 1 = R'.length := by omega
                have hin1 : (R'.length : Int) < (N : Int) := by omega
                have hwrp2 := IntWalk.i64_in (R'.length : Int) (by omega)
                have hN2 : N ≤ R'.length + 1 ∧ R'.length + 1 ≤ N := by omega
                clear hN hn1 hst hends hris hus hRok hp0 hq hpq hR' hat hr he
                go_wp2_with fail
                have hfin2 : (R' ++ [(r.1, r.2 + 1)]).length = N := by simp; omega
                exact ⟨⟨p + 1, by simp, by omega, by rw [hrs, hfin2]; exact hsto, hG.from (.of_some hgs) (fun x hx => .inr (by simp at hx; omega)), hT.kept (.of_some hgs) (by simp; omega)⟩, by simp [intOf]; omega⟩
        · have hpe : p = 4096 := by omega
          subst hpe
          rw [← hofU] at hrow
          go_wp2_with fail
          go_ret
          exact ⟨u5, rfl, row_low hrow (by omega), hG0.from hG (fun x hx => .inr (by simp at hx; omega))⟩

end Go.Proofs.Ytonbcchdaboigaa
