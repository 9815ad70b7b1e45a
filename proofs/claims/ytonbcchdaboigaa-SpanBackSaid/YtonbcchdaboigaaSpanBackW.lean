/-
  SpanBack: the walk.
-/
import Derived.Test.YtonbcchdaboigaaSameS
import Derived.Test.YtonbcchdaboigaaSpanB
namespace Go.Proofs.Ytonbcchdaboigaa
open Go Go.RowKit Go.Maps Go.Am
set_option linter.unusedVariables false

theorem ints_at {w : World} {p : Option Addr} {d : Nat} {q : IntKind} {zs : List Int} (hz : ∀ i, i < d → ∃ a, p = some a ∧ a.block < w.heap.size ∧ w.cell? (a.add i) = some (.int q (zs.getD i 0))) :
    ∀ i, i < d → ∃ g off, p = some ⟨g, off, none⟩ ∧ g < w.heap.size ∧ w.cell? ⟨g, off + i, none⟩ = some (.int q (zs.getD i 0)) := by
  intro i hi
  obtain ⟨⟨g, off, sp⟩, rfl, hg, _⟩ := hz 0 (by omega)
  have hsp : sp = none := by
    obtain ⟨a, ha, _, hc⟩ := hz 0 (by omega)
    cases ha
    simp [Addr.add, World.cell?] at hc
    split at hc
    · by_cases hs : sp = none
      · exact hs
      · simp [hs] at hc
    · cases hc
  subst hsp
  obtain ⟨a, ha, _, hc⟩ := hz i hi
  cases ha
  refine ⟨g, off, rfl, hg, ?_⟩
  have hadd : Addr.add ⟨g, off, none⟩ i = ⟨g, off + i, none⟩ := by
    unfold Addr.add
    by_cases hk : i = 0 <;> simp [hk]
  rw [hadd] at hc
  exact hc

theorem zero_cells : Try.zeroCells32.toList = List.replicate 300 (Value.bool false) := by kernel_rfl

theorem ofA_calls {w : World} {base : Nat} {v : Value} {zs : List Int} (hrow : w.ownsRow base 3 1 v zs.length (zs.map (Value.int .i64))) (hl : zs.length ≤ 1000) :
    Calls Try.prog 18 #[v] w fun e w' => ∃ v', e = .returned v' ∧ w'.ownsRow w.heap.size 64 2 v' (ofS zs).length (encS (ofS zs)) ∧ GrowBut w w' [] := by
  rcases hrow.2 with ⟨rfl, hz⟩ | ⟨g, cap, cur, rfl, hb, hg, r1, r2, r3, r4⟩
  · have : zs = [] := List.length_eq_zero_iff.1 hz
    subst this
    refine (ofN_calls 0 w).mono ?_
    rintro e w' ⟨rfl, rfl⟩
    have e : ofS [] = [] := by
      rw [ofS_pgF (zs := []) (by simp)]
      have : pgF [] = [] := by unfold pgF; exact List.filter_eq_nil_iff.2 fun i _ => by simp [inB]
      rw [this]; rfl
    rw [e]
    exact ⟨_, rfl, World.ownsRow_nil _ _ _ _, .refl _ _⟩
  · refine of_calls g 0 cap zs w (fun j hj => ?_) hl
    rw [Nat.zero_add, hrow.cellAt j (by omega), List.getElem?_map, List.getD_eq_getElem?_getD, List.getElem?_eq_getElem hj]; rfl

theorem encS_at (R : List (Nat × Nat)) : ∀ j, (encS R)[j * 2]? = (R[j]?).map (fun x => .int .i64 x.1) ∧ (encS R)[j * 2 + 1]? = (R[j]?).map (fun x => .int .i64 x.2) := by
  induction R with
  | nil => intro j; simp [encS]
  | cons x R ih =>
    intro j
    have e : encS (x :: R) = .int .i64 x.1 :: .int .i64 x.2 :: encS R := by simp [encS]
    rw [e]
    cases j with
    | zero => simp
    | succ j =>
      have := ih j
      rw [show (j + 1) * 2 = j * 2 + 2 by omega]
      simpa using this

theorem spans_of_row {w : World} {base : Nat} {v : Value} {R : List (Nat × Nat)} (hrow : w.ownsRow base 64 2 v R.length (encS R)) (hR : ∀ r ∈ R, r.1 < 1000000 ∧ r.2 < 1000000) : ∃ s c g, v = .slice s R.length c ∧ SpansIn w s g 0 (asI R) := by
  rcases hrow.2 with ⟨rfl, hz⟩ | ⟨g, cap, cur, rfl, hb, hg, r1, r2, r3, r4⟩
  · exact ⟨none, 0, 0, by rw [hz], fun h0 => by rw [asI_len] at h0; omega⟩
  · refine ⟨some ⟨g, 0, none⟩, cap, g, rfl, fun h0 => ⟨rfl, fun j hj => ?_⟩⟩
    rw [asI_len] at hj
    have hm : R[j]? = some (R.getD j (0, 0)) := by rw [List.getD_eq_getElem?_getD, List.getElem?_eq_getElem hj]; rfl
    have hin := hR _ (List.mem_of_getElem? hm)
    have e : (asI R).getD j (0, 0) = (((R.getD j (0, 0)).1 : Int), ((R.getD j (0, 0)).2 : Int)) := by
      unfold asI
      rw [List.getD_eq_getElem?_getD, List.getElem?_map, hm]; rfl
    rw [e]
    refine ⟨?_, ?_, wf_small (by omega) (by omega), wf_small (by omega) (by omega)⟩
    · rw [Nat.zero_add, hrow.cellAt _ (by omega), (encS_at R j).1, hm]; rfl
    · rw [Nat.zero_add, hrow.cellAt _ (by omega), (encS_at R j).2, hm]; rfl

/-- The array says which pages are among them. -/
structure InAt (w : World) (I : Nat) (l : List Int) : Prop where
  c : ∀ i, i < 300 → w.cell? ⟨I, i, none⟩ = some (.bool (inB l i))
  f : ∀ i, i < 300 → w.frozen? ⟨I, i, none⟩ = false

theorem InAt.kept {w w' : World} {I : Nat} {l : List Int} {L : List Nat} (h : InAt w I l) (hg : GrowBut w w' L) (hn : I ∉ L) : InAt w' I l :=
  ⟨fun i hi => hg.cell (h.c i hi) hn, fun i hi => hg.frozen (cell_lt (h.c i hi)) (h.f i hi) hn⟩

theorem InAt.made (w : World) : InAt (w.alloc (.cells Try.zeroCells32 32)) w.heap.size [] := by
  have hb : (w.alloc (.cells Try.zeroCells32 32)).heap[w.heap.size]? = some (.cells Try.zeroCells32 32 (0, 0)) := by
    show (w.heap.push _)[w.heap.size]? = _
    exact Array.getElem?_push_size
  refine ⟨fun i hi => ?_, fun i hi => ?_⟩
  · have e : Try.zeroCells32[i]? = some (.bool false) := by
      rw [← Array.getElem?_toList, zero_cells, List.getElem?_replicate, if_pos hi]
    have e2 : inB [] i = false := by unfold inB; simp
    rw [e2]
    simp only [World.cell?, hb]
    simpa using e
  · simp only [World.frozen?, hb]
    simp

theorem InAt.put {w : World} {I : Nat} {l : List Int} (h : InAt w I l) {x : Nat} (hx : x < 300) : InAt (w.setCell ⟨I, x, none⟩ (.bool true)) I (l ++ [(x : Int)]) := by
  refine ⟨fun i hi => ?_, fun i hi => ?_⟩
  · have hc := h.c i hi
    by_cases e : i = x
    · subst e
      have e2 : inB (l ++ [(i : Int)]) i = true := by unfold inB; simp
      rw [e2]
      exact World.cell?_setCell_same _ _ _ hc
    · have e2 : inB (l ++ [(x : Int)]) i = inB l i := by
        unfold inB
        refine decide_eq_decide.2 ?_
        rw [List.mem_append, List.mem_singleton]
        exact ⟨fun h => h.resolve_right (by omega), .inl⟩
      rw [e2, ← hc]
      have hne : ¬ x = i := fun e' => e e'.symm
      go_simp
  · have hf := h.f i hi
    rw [← hf]
    go_simp

set_option maxRecDepth 100000 in
set_option maxHeartbeats 8000000 in
theorem spanBack_walk (zs : List Int) (p : Option Addr) (cap : Nat) (w : World) (hz : ∀ i, i < zs.length → ∃ a, p = some a ∧ a.block < w.heap.size ∧ w.cell? (a.add i) = some (.int .u8 (zs.getD i 0))) (hwz : ∀ n ∈ zs, (Lit.int .u8 n).wf = true) :
    Calls Try.prog 4 #[.slice p zs.length cap] w fun e w' => e = .returned (.bool true) ∧ w.grownBy w' none := by
  by_cases hl : zs.length ≤ 30
  · have h30 : ¬ 30 < zs.length := by omega
    have h30' : ¬ (30 : Int) < (zs.length : Int) := by omega
    go_enter Try.func4, Try.ntmps4
    go_upto_region 6 with (first
      | (go_at_call 11; refine (begunSpan_true w).mono ?_; rintro e wb ⟨rfl, hbel⟩)
      | fail)
    have hGb : GrowBut w wb [] := .of_below hbel
    have hI := InAt.made wb
    have hsb := hGb.size
    have hga := GrowBut.alloc wb (.cells Try.zeroCells32 32) []
    have hs1 : (wb.alloc (.cells Try.zeroCells32 32)).heap.size = wb.heap.size + 1 := by simp
    replace hz := ints_at hz
    obtain ⟨k0, hk0, kz0, kz1, kz2⟩ := info_parts infoW
    clear hbel
    go_wp2_with fail
    generalize wb.alloc (.cells Try.zeroCells32 32) = w1 at hI hga hs1 ⊢
    generalize hIs : wb.heap.size = I at hI hs1 hsb ⊢
    have hG1 := hGb.trans hga
    go_loopw [3, 5, 6] (fun v3 v5 v6 wx => ∃ j : Nat, v6 = .int .i64 j ∧ j ≤ zs.length ∧ v5 = .int .i64 (pgF (zs.take j)).length ∧ wx.ownsRow w1.heap.size 3 1 v3 j ((zs.take j).map (Value.int .i64)) ∧ InAt wx I (zs.take j) ∧ GrowBut w1 wx [I]) (fun _ _ v6 _ => zs.length - intOf v6)
    case atStart => exact ⟨0, rfl, by omega, rfl, World.ownsRow_nil _ _ _ _, hI, .refl _ _⟩
    case round =>
      obtain ⟨j, rfl, hj, rfl, hrow, hIn, hG⟩ := hrel
      by_cases hlt : j < zs.length
      · have hlt' : (j : Int) < (zs.length : Int) := by omega
        obtain ⟨g, off, rfl, hg, hc⟩ := hz j hlt
        have hx := hwz _ (show zs.getD j 0 ∈ zs by rw [List.getD_eq_getElem?_getD, List.getElem?_eq_getElem hlt]; simp)
        have htk := take_succ_getD hlt
        have c0 := hG.cell (hG1.cell hc (by simp)) (by simp; omega)
        clear hc
        generalize zs.getD j 0 = x at c0 hx htk
        obtain ⟨X, rfl, hX⟩ : ∃ X : Nat, x = X ∧ X < 256 := by
          simp only [Lit.wf, Bool.and_eq_true, decide_eq_true_eq] at hx
          have hm : IntKind.u8.min = 0 := by decide
          have hM : IntKind.u8.max = 255 := by decide
          rw [hm, hM] at hx
          exact ⟨x.toNat, by omega, by omega⟩
        have hX3 : (X : Int) < 300 := by omega
        have hX3' : X < 300 := by omega
        have hlo3 : ∀ y ∈ u3.ownBlock.toList, w1.heap.size ≤ y := fun y hy => (hrow.lt y (by simpa using hy)).1
        have hGs := hG.size
        have hIu : I ∉ u3.ownBlock.toList := fun hy => by have := hlo3 I hy; omega
        have hkeep : ∀ w4, GrowBut wr w4 u3.ownBlock.toList → w4.cell? ⟨g, off + j, none⟩ = some (.int .u8 (X : Int)) ∧ w4.cell? ⟨I, X, none⟩ = some (.bool (inB (zs.take j) X)) ∧ w4.frozen? ⟨I, X, none⟩ = false ∧ InAt w4 I (zs.take j) := fun w4 h => by
          have hI4 := hIn.kept h hIu
          exact ⟨h.cell c0 (fun hy => by have := hlo3 g hy; omega), hI4.c X hX3', hI4.f X hX3', hI4⟩
        by_cases hin : (X : Int) ∈ zs.take j
        · have hb : inB (zs.take j) X = true := decide_eq_true hin
          simp only [hb] at hkeep
          have hpn : (pgF (zs.take (j + 1))).length = (pgF (zs.take j)).length := by rw [htk, pgF_old hin]
          clear hin hb
          go_wp2_with (first
            | (at_builtin; (refine wpList_append_own _ rfl _ _ 23 rfl w1.heap.size 3 k0 (.int .i64 0) 1 8 Try.underlying23 hk0 kz0 kz1 kz2 rfl (by decide) _ _ _ rfl (hrow.alloc _) ⟨wr.heap.size, 0, none⟩ 1 1 [.int .i64 X] rfl rfl (cell_one_new _ _ _) (by simp [Value.oneCell']) (by unfold maxLen; omega) (by omega) (by simp; omega) ?_; intro v' w4 hown4 hg4 hnil4; have hg4' := (GrowBut.alloc wr (.cells #[.int .i64 X] 3) _).trans (GrowBut.of_rowZ (o := u3.ownBlock) hg4); clear hg4 hnil4; obtain ⟨d0, d1, d2, hI4⟩ := hkeep w4 hg4'; go_frame))
            | fail)
          have hset := GrowBut.setCell w4 ⟨I, X, none⟩ (.bool true)
          have hp := hI4.put hX3'
          rw [← htk] at hp
          exact ⟨⟨j + 1, by simp, by omega, by rw [hpn], by rw [htk, List.map_append]; exact hset.row hown4 (fun y hy => by have := (hown4.lt y hy).1; simp; omega), hp, (hG.from hg4' (fun y hy => .inr (hlo3 y hy))).trans hset⟩, by simp [intOf]; omega⟩
        · have hb : inB (zs.take j) X = false := decide_eq_false hin
          simp only [hb] at hkeep
          have hpn : (pgF (zs.take (j + 1))).length = (pgF (zs.take j)).length + 1 := by rw [htk, pgF_len_new hX3' hin]
          have hple := pgF_len_le (zs.take j)
          rw [List.length_take] at hple
          clear hin hb
          go_wp2_with (first
            | (at_builtin; (refine wpList_append_own _ rfl _ _ 23 rfl w1.heap.size 3 k0 (.int .i64 0) 1 8 Try.underlying23 hk0 kz0 kz1 kz2 rfl (by decide) _ _ _ rfl (hrow.alloc _) ⟨wr.heap.size, 0, none⟩ 1 1 [.int .i64 X] rfl rfl (cell_one_new _ _ _) (by simp [Value.oneCell']) (by unfold maxLen; omega) (by omega) (by simp; omega) ?_; intro v' w4 hown4 hg4 hnil4; have hg4' := (GrowBut.alloc wr (.cells #[.int .i64 X] 3) _).trans (GrowBut.of_rowZ (o := u3.ownBlock) hg4); clear hg4 hnil4; obtain ⟨d0, d1, d2, hI4⟩ := hkeep w4 hg4'; go_frame))
            | fail)
          have hset := GrowBut.setCell w4 ⟨I, X, none⟩ (.bool true)
          have hp := hI4.put hX3'
          rw [← htk] at hp
          exact ⟨⟨j + 1, by simp, by omega, by rw [hpn]; simp, by rw [htk, List.map_append]; exact hset.row hown4 (fun y hy => by have := (hown4.lt y hy).1; simp; omega), hp, (hG.from hg4' (fun y hy => .inr (hlo3 y hy))).trans hset⟩, by simp [intOf]; omega⟩
      · have hjl : j = zs.length := by omega
        subst hjl
        rw [List.take_length] at hrow hIn
        have hple := pgF_len_le zs
        obtain ⟨wA, hwA⟩ : ∃ wA, wr = wA := ⟨_, rfl⟩
        subst wr
        have hGA := hG1.from hG (fun y hy => .inr (by simp at hy; omega))
        have hzr : ∀ x ∈ zs, 0 ≤ x ∧ x < 300 := fun x hx => by
          have := hwz x hx
          simp only [Lit.wf, Bool.and_eq_true, decide_eq_true_eq] at this
          have hm : IntKind.u8.min = 0 := by decide
          have hM : IntKind.u8.max = 255 := by decide
          rw [hm, hM] at this
          omega
        have hwA' := hG.size
        clear hG hGb hI hga
        obtain ⟨s3, c3, rfl⟩ := row_form hrow
        have hP : ∃ P, pgF (zs.take zs.length) = P ∧ P = pgF zs := ⟨_, rfl, by rw [List.take_length]⟩
        obtain ⟨P, hP1, hP2⟩ := hP
        rw [hP1]
        go_wp2_with fail
        go_loopw [7, 8] (fun v7 v8 wx => ∃ k : Nat, v8 = .int .i64 k ∧ k ≤ 300 ∧ v7 = .int .i64 ((List.range k).filter (startB zs)).length ∧ wx = wA) (fun _ v8 _ => 300 - intOf v8)
        case atStart => exact ⟨0, rfl, by omega, rfl, rfl⟩
        case round =>
          obtain ⟨k, rfl, hk, rfl, hwx⟩ := hrel
          subst wr
          have hsl : ((List.range k).filter (startB zs)).length ≤ 300 := Nat.le_trans (List.length_filter_le _ _) (by simp; omega)
          by_cases hlt : k < 300
          · have hlt' : (k : Int) < 300 := by omega
            have hss := starts_succ zs k
            have c0 := hIn.c k hlt
            cases hb : inB zs k with
            | false =>
              rw [hb] at c0
              have e : startB zs k = false := by unfold startB; rw [hb]; rfl
              rw [e] at hss
              simp only [Bool.false_eq_true, if_false, Nat.add_zero] at hss
              go_wp2_with fail
              exact ⟨⟨k + 1, by simp, by omega, by rw [hss], trivial⟩, by simp [intOf]; omega⟩
            | true =>
              rw [hb] at c0
              by_cases hk0 : k = 0
              · subst hk0
                have e : startB zs 0 = true := by unfold startB; rw [hb]; rfl
                rw [e] at hss
                simp only [if_true] at hss
                go_wp2_with fail
                exact ⟨⟨1, rfl, by omega, by rw [show (1 : Nat) = 0 + 1 from rfl, hss]; rfl, trivial⟩, by simp [intOf]⟩
              · obtain ⟨m, hm⟩ : ∃ m, k = m + 1 := ⟨k - 1, by omega⟩
                have c1 := hIn.c m (by omega)
                have hlast : (k : Int) - 1 = (m : Int) := by omega
                have hwrp := IntWalk.i64_in (m : Int) (by omega)
                have hk00 : ((k : Int) == 0) = false := by rw [beq_eq_false_iff_ne]; omega
                have hm3 : (m : Int) < 300 := by omega
                have hm3' : m < 300 := by omega
                have hkm : k - 1 = m := by omega
                cases hb2 : inB zs m with
                | false =>
                  rw [hb2] at c1
                  have e : startB zs k = true := by unfold startB; rw [hb, hkm, hb2]; simp
                  rw [e] at hss
                  simp only [if_true] at hss
                  clear hm hkm hk0
                  go_wp2_with fail
                  exact ⟨⟨k + 1, by simp, by omega, by rw [hss]; simp, trivial⟩, by simp [intOf]; omega⟩
                | true =>
                  rw [hb2] at c1
                  have e : startB zs k = false := by unfold startB; rw [hb, hkm, hb2, decide_eq_false hk0]; rfl
                  rw [e] at hss
                  simp only [Bool.false_eq_true, if_false, Nat.add_zero] at hss
                  clear hm hkm hk0
                  go_wp2_with fail
                  exact ⟨⟨k + 1, by simp, by omega, by rw [hss], trivial⟩, by simp [intOf]; omega⟩
          · have hk3 : k = 300 := by omega
            subst hk3
            have hrl := rows_len (zs := zs)
            rw [← hrl]
            have hof := ofS_pgF hzr
            rw [← hof]
            have hOf := ofA_calls hrow (by omega)
            have hRlt : ∀ r ∈ ofS zs, r.1 < 1000000 ∧ r.2 < 1000000 := fun r hr => by
              rw [hof] at hr
              have := rows_ok (pgF zs) pgF_lt r hr
              omega
            have hRl : (ofS zs).length ≤ 30 := by rw [hof]; exact Nat.le_trans (rowsS_le _) (by omega)
            have hpT := pagesT_rows (pgF_rises zs) pgF_lt (by omega)
            rw [← hof] at hpT
            obtain ⟨R, hR⟩ : ∃ R, ofS zs = R := ⟨_, rfl⟩
            rw [hR] at hOf hRlt hRl hpT ⊢
            go_upto_region 22 with (first
              | (go_at_call 18; (refine hOf.mono ?_; clear hOf; rintro e w5 ⟨v5, rfl, hrow5, hg5⟩; obtain ⟨s5, c5, g5, rfl, hS5⟩ := spans_of_row hrow5 hRlt))
              | fail)
            have hMay := fun w6 (hg : GrowBut w5 w6 []) => mayT_calls s5 g5 0 c5 (asI R) w6 (hS5.kept hg (by simp)) (by rw [asI_len]; omega)
            have hPg := fun w6 (hg : GrowBut w5 w6 []) => PagesT_calls s5 g5 0 c5 (asI R) w6 (hS5.kept hg (by simp)) (by rw [asI_len]; omega)
            simp only [asI_len] at hMay hPg
            rw [hpT] at hMay hPg
            by_cases hR18 : 1 ≤ R.length ∧ R.length ≤ 8
            · simp only [if_pos hR18, Option.isSome_some, Option.getD_some] at hMay hPg
              obtain ⟨hRa, hRb⟩ := hR18
              have dRa : decide (1 ≤ (R.length : Int)) = true := decide_eq_true (by omega)
              have dRb : decide ((R.length : Int) ≤ 8) = true := decide_eq_true (by omega)
              have hM1 := hMay w5 (.refl _ _)
              go_upto_region 26 with (first
                | (go_at_call 12; (refine hM1.mono ?_; clear hM1; rintro e w6 ⟨rfl, hg6⟩; have hM2 := hMay w6 hg6))
                | (go_at_call 12; (refine hM2.mono ?_; clear hM2; rintro e w7 ⟨rfl, hg7⟩; have hP7 := hPg w7 (hg6.trans hg7)))
                | fail)
              all_goals try (exfalso; omega)
              go_upto_region 29 with (first
                | (go_at_call 15; (refine hP7.mono ?_; clear hP7; rintro e w8 ⟨v8, rfl, hg8, hrow8⟩; rw [castL_len] at hrow8; have hlr := castL_rises (pgF_rises zs); obtain ⟨s8, c8, hv8⟩ := row_form hrow8; subst hv8))
                | fail)
              have hG8 : GrowBut wA w8 [] := hg5.trans (hg6.trans (hg7.trans hg8))
              have hI8 := hIn.kept hG8 (by simp)
              have hwz8 := hG8.size
              have hcl := castL_len (pgF zs)
              have hpm : ∀ i, i < (pgF zs).length → (pgF zs).getD i 0 ∈ pgF zs := fun i hi => by
                rw [List.getD_eq_getElem?_getD, List.getElem?_eq_getElem hi]; simp
              have hpl : ∀ i, i + 1 < (pgF zs).length → (pgF zs).getD i 0 < (pgF zs).getD (i + 1) 0 := fun i hi => by
                have := List.pairwise_iff_getElem.1 (pgF_rises zs) i (i + 1) (by omega) hi (by omega)
                rw [List.getD_eq_getElem?_getD, List.getD_eq_getElem?_getD, List.getElem?_eq_getElem hi, List.getElem?_eq_getElem (by omega)]
                exact this
              have hpc : 0 < (pgF zs).length → ∃ g8, s8 = some ⟨g8, 0, none⟩ ∧ g8 < w8.heap.size ∧ ∀ i, i < (pgF zs).length → w8.cell? ⟨g8, i, none⟩ = some (.int .i64 ((pgF zs).getD i 0 : Nat)) := fun h0 => by
                obtain ⟨g8, cp8, hv, _, hgl⟩ := row_block hrow8 h0
                cases hv
                refine ⟨g8, rfl, hgl, fun i hi => ?_⟩
                rw [hrow8.cellAt i (by omega)]
                unfold castL
                rw [List.map_map, List.getElem?_map, List.getD_eq_getElem?_getD, List.getElem?_eq_getElem hi]; rfl
              have hinB : ∀ i, i < (pgF zs).length → (pgF zs).getD i 0 < 300 ∧ inB zs ((pgF zs).getD i 0) = true := fun i hi => by
                have := mem_pgF.1 (hpm i hi)
                exact ⟨this.1, by unfold inB; exact decide_eq_true this.2⟩
              have hOb := fun w9 (hg : GrowBut w8 w9 []) => ofA_calls (hg.row (by rw [hcl]; exact hrow8) (by simp) : w9.ownsRow w7.heap.size 3 1 (.slice s8 (pgF zs).length c8) (castL (pgF zs)).length ((castL (pgF zs)).map (Value.int .i64))) (by rw [castL_len]; omega)
              rw [ofS_back hzr, hR] at hOb
              go_wp2_with fail
              go_loopw [11] (fun v11 wx => ∃ i : Nat, v11 = .int .i64 i ∧ i ≤ (pgF zs).length ∧ GrowBut w8 wx []) (fun v11 _ => (pgF zs).length - intOf v11)
              case atStart => exact ⟨0, rfl, by omega, .refl _ _⟩
              case round =>
                obtain ⟨i, rfl, hi, hGx⟩ := hrel
                by_cases hlt : i < (pgF zs).length
                · have hlt' : (i : Int) < ((pgF zs).length : Int) := by omega
                  obtain ⟨g8, rfl, hg8l, hc8⟩ := hpc (by omega)
                  have c0 := hGx.cell (hc8 i hlt) (by simp)
                  obtain ⟨hx3, hxb⟩ := hinB i hlt
                  have c1 := hGx.cell (hI8.c _ hx3) (by simp)
                  rw [hxb] at c1
                  by_cases hi0 : i = 0
                  · subst hi0
                    generalize (pgF zs).getD 0 0 = x at c0 c1 hx3
                    have dA : decide ((x : Int) < 0) = false := decide_eq_false (by omega)
                    have dB : decide (300 ≤ (x : Int)) = false := decide_eq_false (by omega)
                    have hx0 : 0 ≤ (x : Int) := by omega
                    have hx3' : (x : Int) < 300 := by omega
                    have htn : ((x : Int)).toNat = x := by omega
                    go_upto_region 32 with fail
                    clear hIn hI8 hc8 hpc hinB hpl hpm hOb hMay hPg hrow hrow5 hrow8 hS5 hz hwz hzr hRlt hpT
                    go_quiet (fail)
                    go_wp2_with fail
                    exact ⟨⟨1, rfl, by omega, hGx.trans (.drewN _ _ _)⟩, by simp [intOf]; omega⟩
                  · obtain ⟨m, hm⟩ : ∃ m, i = m + 1 := ⟨i - 1, by omega⟩
                    have c2 := hGx.cell (hc8 m (by omega)) (by simp)
                    have hxy := hpl m (by omega)
                    rw [← hm] at hxy
                    generalize (pgF zs).getD i 0 = x at c0 c1 hx3 hxy
                    generalize (pgF zs).getD m 0 = y at c2 hxy
                    have dA : decide ((x : Int) < 0) = false := decide_eq_false (by omega)
                    have dB : decide (300 ≤ (x : Int)) = false := decide_eq_false (by omega)
                    have hx0 : 0 ≤ (x : Int) := by omega
                    have hx3' : (x : Int) < 300 := by omega
                    have htn : ((x : Int)).toNat = x := by omega
                    have dC : decide (0 < (i : Int)) = true := decide_eq_true (by omega)
                    have dD : decide ((x : Int) ≤ (y : Int)) = false := decide_eq_false (by omega)
                    have hlast : (i : Int) - 1 = (m : Int) := by omega
                    have hml : (m : Int) < ((pgF zs).length : Int) := by omega
                    have hm0 : 0 ≤ (m : Int) := by omega
                    have hmt : ((m : Int)).toNat = m := by omega
                    have hwrp := IntWalk.i64_in (m : Int) (by omega)
                    have hpos : 0 < i := by omega
                    have hxyN : ¬ x ≤ y := by omega
                    clear hm hi0 hxy
                    go_upto_region 32 with fail
                    clear hIn hI8 hc8 hpc hinB hpl hpm hOb hMay hPg hrow hrow5 hrow8 hS5 hz hwz hzr hRlt hpT
                    go_quiet (fail)
                    go_wp2_with fail
                    all_goals try (exfalso; omega)
                    exact ⟨⟨i + 1, by simp, by omega, hGx.trans (.drewN _ _ _)⟩, by simp [intOf]; omega⟩
                · have hil : i = (pgF zs).length := by omega
                  have hge : ¬ (i : Int) < ((pgF zs).length : Int) := by omega
                  have hO9 := hOb wr hGx
                  clear hIn hI8 hpc hinB hpl hpm hOb hMay hPg
                  go_wp2_with (first
                    | (go_at_call 18; (refine hO9.mono ?_; clear hO9; rintro e w10 ⟨v10, rfl, hrow10, hg10⟩; obtain ⟨s10, c10, g10, rfl, hS10⟩ := spans_of_row hrow10 hRlt; have hAl := alike_calls s10 s5 g10 g5 0 0 c10 c5 (asI R) (asI R) w10 hS10 (hS5.kept (((hg6.trans (hg7.trans hg8)).trans hGx).trans hg10) (by simp)) (by rw [asI_len]; omega); simp only [asI_len, decide_true] at hAl))
                    | (go_at_call 17; (refine hAl.mono ?_; clear hAl; rintro e w11 ⟨rfl, hg11⟩))
                    | fail)
                  go_ret
                  exact ⟨rfl, ((hGA.trans hG8).trans ((hGx.trans hg10).trans hg11)).keepAll⟩
            · simp only [if_neg hR18, Option.isSome_none, Option.getD_none, List.length_nil, List.map_nil] at hMay hPg
              have hM1 := hMay w5 (.refl _ _)
              by_cases hRa : 1 ≤ R.length
              · have hRb : ¬ R.length ≤ 8 := fun h => hR18 ⟨hRa, h⟩
                clear hR18 hpT
                have dRa : decide (1 ≤ (R.length : Int)) = true := decide_eq_true (by omega)
                have dRb : decide ((R.length : Int) ≤ 8) = false := decide_eq_false (by omega)
                go_wp2_with (first
                  | (go_at_call 12; (refine hM1.mono ?_; clear hM1; rintro e w6 ⟨rfl, hg6⟩; have hM2 := hMay w6 hg6))
                  | (go_at_call 12; (refine hM2.mono ?_; clear hM2; rintro e w7 ⟨rfl, hg7⟩; have hP7 := hPg w7 (hg6.trans hg7)))
                  | (go_at_call 15; (refine hP7.mono ?_; clear hP7; rintro e w8 ⟨v8, rfl, hg8, hrow8⟩; obtain ⟨s8, c8, rfl⟩ := row_form hrow8))
                  | fail)
                all_goals try (exfalso; omega)
                go_ret
                exact ⟨rfl, ((hGA.trans hg5).trans (hg6.trans (hg7.trans hg8))).keepAll⟩
              · clear hR18 hpT
                have dRa : decide (1 ≤ (R.length : Int)) = false := decide_eq_false (by omega)
                go_wp2_with (first
                  | (go_at_call 12; (refine hM1.mono ?_; clear hM1; rintro e w6 ⟨rfl, hg6⟩; have hM2 := hMay w6 hg6))
                  | (go_at_call 12; (refine hM2.mono ?_; clear hM2; rintro e w7 ⟨rfl, hg7⟩; have hP7 := hPg w7 (hg6.trans hg7)))
                  | (go_at_call 15; (refine hP7.mono ?_; clear hP7; rintro e w8 ⟨v8, rfl, hg8, hrow8⟩; obtain ⟨s8, c8, rfl⟩ := row_form hrow8))
                  | fail)
                all_goals try (exfalso; omega)
                go_ret
                exact ⟨rfl, ((hGA.trans hg5).trans (hg6.trans (hg7.trans hg8))).keepAll⟩
  · have h30 : 30 < zs.length := by omega
    go_enter Try.func4, Try.ntmps4
    go_wp2_with (first
      | (go_at_call 11; refine (begunSpan_true w).mono ?_; rintro e wb ⟨rfl, hbel⟩)
      | fail)
    go_ret
    exact ⟨rfl, (GrowBut.of_below hbel).keepAll⟩

end Go.Proofs.Ytonbcchdaboigaa
