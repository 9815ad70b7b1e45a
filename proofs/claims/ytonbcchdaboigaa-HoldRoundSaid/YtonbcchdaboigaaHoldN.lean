/-
  Package hold: New.
-/
import Derived.Test.YtonbcchdaboigaaHoldG
namespace Go.Proofs.Ytonbcchdaboigaa
open Go Go.RowKit Go.Maps Go.Am Go.Shelf
set_option linter.unusedVariables false

/-- A part's first leaves, as they come in. -/
def FirstIn (w : World) (V : Nat) (i : Nat) (ls : List (Int × Int)) : Prop := ∃ s c, w.cell? ⟨V, i, none⟩ = some (.slice s ls.length c) ∧ (0 < ls.length → ∃ b off, s = some ⟨b, off, none⟩ ∧ LeavesIn w b off ls)

/-- What a row of that length looks like. -/
theorem row_form {w : World} {base : Nat} {e : TypeId} {size n : Nat} {v : Value} {xs : List Value} (h : w.ownsRow base e size v n xs) : ∃ s cap, v = .slice s n cap := by
  rcases h.2 with ⟨rfl, rfl⟩ | ⟨g, cap, _, rfl, _⟩
  · exact ⟨_, _, rfl⟩
  · exact ⟨_, _, rfl⟩

theorem row_openG {w : World} {base k : Nat} {e : TypeId} {v : Value} {xs : List Value} (hrow : w.ownsRow base e 1 v k xs) (h0 : 0 < k) : ∃ g cap, v = .slice (some ⟨g, 0, none⟩) k cap ∧ base ≤ g ∧ g < w.heap.size ∧ ∀ i, i < k → w.cell? ⟨g, i, none⟩ = xs[i]? := by
  rcases hrow.2 with ⟨rfl, hz⟩ | ⟨g, cap, cur, rfl, hbase, hb, h1, h2, h3, h4⟩
  · omega
  · refine ⟨g, cap, rfl, hbase, (Array.getElem?_eq_some_iff.1 hb).1, fun i hi => ?_⟩
    have h5 : (cur.toList.take (k * 1))[i]? = xs[i]? := by rw [h4]
    rw [List.getElem?_take_of_lt (by omega)] at h5
    rw [← h5]
    simp only [World.cell?, hb]
    simp

/-- A part's first pages. -/
def firstF (ls : List (Int × Int)) : PgF := putsF (fun _ => none) 0 ls 1 0

theorem infoM : (Try.prog.info? 119).map (fun i => (i.zero, i.size, i.bytes)) = some (some (.map none), 1, 8) := by kernel_rfl

theorem LeavesIn.kept {w w' : World} {b off : Nat} {ls : List (Int × Int)} {l : List Nat} (h : LeavesIn w b off ls) (hg : GrowBut w w' l) (hn : 0 < ls.length → b ∉ l) : LeavesIn w' b off ls := fun j hj => by
  obtain ⟨h0, h1, h2, h3⟩ := h j hj
  exact ⟨hg.cell h0 (hn (by omega)), hg.cell h1 (hn (by omega)), h2, h3⟩

theorem tab_block {w : World} {q : IntKind} {kt : TypeId} {b n : Nat} {f : Int → Option Value} (h : TabAt w q kt b n f) : ∃ es clock, w.heap[b]? = some (.map es clock) := by
  obtain ⟨D, ⟨es, clock, hb, _⟩, _⟩ := h.own
  exact ⟨es, clock, hb⟩

theorem row_ne_tab {w : World} {base : Nat} {e : TypeId} {size n : Nat} {v : Value} {xs : List Value} (h : w.ownsRow base e size v n xs) {q : IntKind} {kt : TypeId} {b k : Nat} {f : Int → Option Value} (ht : TabAt w q kt b k f) : b ∉ v.ownBlock.toList := by
  intro hm
  obtain ⟨es, clock, hb⟩ := tab_block ht
  rcases h.2 with ⟨rfl, _⟩ | ⟨g, cap, cur, rfl, _, hg, _⟩
  · cases hm
  · simp [Value.ownBlock] at hm
    subst hm
    rw [hb] at hg; cases hg

theorem firstF_rng {ls : List (Int × Int)} (hl : ls.length ≤ 100) : ∀ k r, firstF ls k = some r → 0 ≤ k ∧ k < 3840 :=
  putsF_rng (fun k r h => by cases h) (by omega) (by omega)

theorem firstF_wf {w : World} {V i : Nat} {ls : List (Int × Int)} (h : FirstIn w V i ls) : ∀ k r, firstF ls k = some r → (Lit.int .i64 r.frame).wf = true ∧ (Lit.int .i64 r.perm).wf = true ∧ (Lit.int .i64 r.state).wf = true ∧ (Lit.int .u64 r.mark).wf = true := by
  intro k r hk
  obtain ⟨s, c, _, h2⟩ := h
  by_cases h0 : 0 < ls.length
  · obtain ⟨b, off, _, hL⟩ := h2 h0
    exact putsF_wf (fun k r h => by cases h) hL (by decide) (by decide) k r hk
  · have : ls = [] := List.length_eq_zero_iff.1 (by omega)
    subst this
    unfold firstF at hk
    rw [putsF_nil] at hk
    cases hk

theorem range_snoc (f : Nat → Value) (j : Nat) : (List.range (j + 1)).map f = (List.range j).map f ++ [f j] := by rw [List.range_succ, List.map_append]; rfl

set_option maxRecDepth 100000 in
set_option maxHeartbeats 4000000 in
theorem newH_calls (V c m : Nat) (lss : Nat → List (Int × Int)) (w : World) (hm : 0 < m) (hm1 : m ≤ 100) (hz : ∀ i, i < m → FirstIn w V i (lss i)) (hl : ∀ i, i < m → (lss i).length ≤ 100) :
    Calls Try.prog 23 #[.slice (some ⟨V, 0, none⟩) m c] w fun e w' => ∃ B g cap bs, e = .returned (.pointer (some ⟨B, 0, none⟩)) ∧ HoldAt w' B g cap m 100 bs (fun i => firstF (lss i)) ∧ w.heap.size ≤ B ∧ w.heap.size ≤ g ∧ (∀ i, i < m → w.heap.size ≤ bs i) ∧ GrowBut w w' [] := by
  have hmm := @run_makeMap Try.prog
  obtain ⟨i0, hi0, hz0, hz1, hz2⟩ := info_parts infoM
  go_enter Try.func23, Try.ntmps23
  go_wp2_with fail
  clear hmm
  have hG0 := GrowBut.alloc w (.cells #[.slice none 0 0] 118) []
  have hB0 : (w.alloc (.cells #[.slice none 0 0] 118)).cell? ⟨w.heap.size, 0, none⟩ = some (.slice none 0 0) := by go_simp
  have hF0 : (w.alloc (.cells #[.slice none 0 0] 118)).frozen? ⟨w.heap.size, 0, none⟩ = false := by go_simp
  have hs0 : (w.alloc (.cells #[.slice none 0 0] 118)).heap.size = w.heap.size + 1 := by simp
  have hL0 := World.ownsRow_nil (w.alloc (.cells #[.slice none 0 0] 118)) (w.alloc (.cells #[.slice none 0 0] 118)).heap.size 119 1
  generalize w.alloc (.cells #[.slice none 0 0] 118) = w0 at hG0 hB0 hF0 hs0 hL0 ⊢
  rw [hs0] at hL0
  generalize hBs : w.heap.size = B at hB0 hF0 hs0 hL0 ⊢
  go_loopw [13] (fun v13 wx => ∃ (j : Nat) (bs : Nat → Nat) (v : Value), v13 = .int .i64 j ∧ j ≤ m ∧ wx.cell? ⟨B, 0, none⟩ = some v ∧ wx.frozen? ⟨B, 0, none⟩ = false ∧ wx.ownsRow (B + 1) 119 1 v j ((List.range j).map fun i => .map (some (bs i))) ∧
    (∀ i, i < j → TabAt wx .i64 3 (bs i) 100 (tabP (firstF (lss i))) ∧ B < bs i) ∧ (∀ i k, i < j → k < j → bs i = bs k → i = k) ∧ GrowBut w0 wx [B]) (fun v13 _ => m - intN v13)
  case atStart => exact ⟨0, fun _ => 0, _, rfl, by omega, hB0, hF0, hL0, fun i hi => by omega, fun i k hi => by omega, .refl _ _⟩
  case round =>
    obtain ⟨j, bs, v, rfl, hj, hBv, hBf, hrow, htabs, hap, hG⟩ := hrel
    by_cases hlt : j < m
    · have hlt' : (j : Int) < (m : Int) := by omega
      obtain ⟨s, cc, cV, hsl⟩ := hz j hlt
      have hVl := cell_lt cV
      simp only at hVl
      have hll := hl j hlt
      have cV' := hG.cell (hG0.cell cV (by simp)) (by simp; omega)
      have hmm := @run_makeMap Try.prog
      go_wp2_with fail
      clear hmm
      have hg1 := GrowBut.alloc wr (.map #[] 0) []
      have hP := TabAt.made wr .i64 3
      have hPe : (fun _ => none) = tabP (putsF (fun _ => none) 0 ((lss j).take 0) 1 0) := by rw [List.take_zero, putsF_nil]; rfl
      rw [hPe] at hP
      have hBv1 := hg1.cell hBv (by simp)
      have hBf1 := hg1.frozen (a := ⟨B, 0, none⟩) (by have := cell_lt hBv; exact this) hBf (by simp)
      have hrow1 := hg1.row hrow (by simp)
      have htabs1 : ∀ i, i < j → TabAt (wr.alloc (.map #[] 0)) .i64 3 (bs i) 100 (tabP (firstF (lss i))) ∧ B < bs i ∧ bs i < wr.heap.size := fun i hi => ⟨(htabs i hi).1.kept hg1 (by simp), (htabs i hi).2, (htabs i hi).1.blt⟩
      have hG1 := hG.trans (hg1.mono (by simp))
      have hsw : wr.heap.size < (wr.alloc (.map #[] 0)).heap.size := by simp
      have hBl := hG.size
      have hlow : ∀ i, v.ownBlock = some i → i < wr.heap.size := fun i hi => (hrow.lt i hi).2
      clear hPe htabs hrow hBv hBf hG hg1 cV'
      generalize wr.alloc (.map #[] 0) = w2 at hP hBv1 hBf1 hrow1 htabs1 hG1 hsw ⊢
      generalize wr.heap.size = P at hP htabs1 hsw hBl hlow ⊢
      have hPB : ¬ P = B := by omega
      go_loopw [20] (fun v20 wy => ∃ k : Nat, v20 = .int .i64 k ∧ k ≤ (lss j).length ∧ TabAt wy .i64 3 P k (tabP (putsF (fun _ => none) 0 ((lss j).take k) 1 0)) ∧ GrowBut w2 wy [P]) (fun v20 _ => (lss j).length - intN v20)
      case atStart => exact ⟨0, rfl, by omega, hP, .refl _ _⟩
      case round =>
        obtain ⟨k, rfl, hk, hTk, hg⟩ := hrel
        by_cases hlk : k < (lss j).length
        · have hlk' : (k : Int) < ((lss j).length : Int) := by omega
          obtain ⟨b, off, rfl, hLv⟩ := hsl (by omega)
          obtain ⟨c0, c1, hw0, hw1⟩ := hLv k hlk
          have hbl := cell_lt c0
          simp only at hbl
          replace c0 := hg.cell (hG1.cell (hG0.cell c0 (by simp)) (by simp; omega)) (by simp; omega)
          replace c1 := hg.cell (hG1.cell (hG0.cell c1 (by simp)) (by simp; omega)) (by simp; omega)
          have hwx : (Lit.int .i64 k).wf = true := wf_small (by omega) (by omega)
          have hsn := tabP_put (putsF (fun _ => none) 0 ((lss j).take k) 1 0) k ⟨((lss j).getD k (0, 0)).1, ((lss j).getD k (0, 0)).2, 1, 0⟩
          have hlen : ((lss j).take k).length = k := by rw [List.length_take]; omega
          have hps := putsF_snoc (f := fun _ => none) (a := 0) (ls := (lss j).take k) (st := 1) (mk := 0) (x := (lss j).getD k (0, 0))
          rw [hlen, ← take_snoc2 hlk, Int.zero_add] at hps
          rw [hps] at hsn
          clear hps hlen hw0 hw1 hLv hsl
          generalize ((lss j).getD k (0, 0)).1 = x at c0 hsn
          generalize ((lss j).getD k (0, 0)).2 = y at c1 hsn
          simp only [encP] at hsn
          go_wp2_with (first
            | (at_mapUpdate; refine wpList_putT rfl _ _ _ 119 rfl (hTk.kept (GrowBut.alloc _ _ []) (by simp)) keyH Try.underlying3 Try.underlying119 (by omega) rfl k (.agg #[.int .i64 x, .int .i64 y, .int .i64 1, .int .u64 0]) rfl rfl hwx ?_; intro w3 hT3 hg3; rw [hsn] at hT3)
            | fail)
          exact ⟨⟨k + 1, by simp, by omega, hT3, hg.trans ((GrowBut.alloc _ _ _).trans hg3)⟩, by simp [intN]; omega⟩
        · have hge : ¬ (k : Int) < ((lss j).length : Int) := by omega
          have hkl : k = (lss j).length := by omega
          subst hkl
          rw [List.take_length] at hTk
          have hgs := hg.size
          have hBv2 := hg.cell hBv1 (by simpa using fun e => hPB e.symm)
          have hBf2 := hg.frozen (a := ⟨B, 0, none⟩) (by have := cell_lt hBv1; exact this) hBf1 (by simpa using fun e => hPB e.symm)
          have hrow2 := hg.row hrow1 (fun i hi => by have := hlow i hi; simp; omega)
          go_wp2_with (first
            | (at_builtin; refine wpList_append_own _ rfl _ _ 116 rfl (B + 1) 119 i0 (.map none) 1 8 Try.underlying116 hi0 hz0 hz1 hz2 rfl (by decide) _ _ _ rfl (hrow2.alloc _) ⟨wr.heap.size, 0, none⟩ 1 1 [.map (some P)] rfl rfl (cell_one_new _ _ _) (by simp [Value.oneCell']) (by unfold maxLen at *; omega) (by omega) (by simp; omega) ?_; intro v' w4 hown4 hg4 hnil4; have hg4' := (GrowBut.alloc wr (.cells #[.map (some P)] 119) _).trans (GrowBut.of_rowI (o := v.ownBlock) hg4); clear hnil4 hg4; have hvB : B ∉ v.ownBlock.toList := (fun hx => by have := (hrow2.lt B (by simpa using hx)).1; omega); have hB4 := hg4'.cell hBv2 hvB; have hF4 := hg4'.frozen (a := ⟨B, 0, none⟩) (by have := cell_lt hBv2; exact this) hBf2 hvB; obtain ⟨s4, cp4, rfl⟩ := row_form hown4; go_frame)
            | fail)
          have hset := GrowBut.setCell w4 ⟨B, 0, none⟩ (.slice s4 (j + 1) cp4)
          have hcell : (w4.setCell ⟨B, 0, none⟩ (.slice s4 (j + 1) cp4)).cell? ⟨B, 0, none⟩ = some (.slice s4 (j + 1) cp4) := by go_simp
          have hfroz : (w4.setCell ⟨B, 0, none⟩ (.slice s4 (j + 1) cp4)).frozen? ⟨B, 0, none⟩ = false := by go_simp
          have hrow5 := hset.row hown4 (fun i hi => by have := (hown4.lt i hi).1; simp; omega)
          have hTj := ((hTk.kept hg4' (row_ne_tab hrow2 hTk)).kept hset (by simpa using hPB)).mono hll
          have hTi : ∀ i, i < j → TabAt (w4.setCell ⟨B, 0, none⟩ (.slice s4 (j + 1) cp4)) .i64 3 (bs i) 100 (tabP (firstF (lss i))) ∧ B < bs i ∧ bs i < P := fun i hi => by
            obtain ⟨h1, h2, h3⟩ := htabs1 i hi
            have h4 := h1.kept hg (by simp; omega)
            exact ⟨(h4.kept hg4' (row_ne_tab hrow2 h4)).kept hset (by simp; omega), h2, h3⟩
          have hGe : GrowBut w0 (w4.setCell ⟨B, 0, none⟩ (.slice s4 (j + 1) cp4)) [B] := ((hG1.from hg (fun x hx => .inr (by simp at hx; omega))).from hg4' (fun x hx => .inr (by have := (hrow2.lt x (by simpa using hx)).1; omega))).trans hset
          refine ⟨⟨j + 1, fun i => if i = j then P else bs i, _, by simp, by omega, hcell, hfroz, ?_, fun i hi => ?_, fun i k hi hk e => ?_, hGe⟩, by simp [intN]; omega⟩
          · rw [range_snoc]
            have e1 : (List.range j).map (fun i => Value.map (some (if i = j then P else bs i))) = (List.range j).map (fun i => .map (some (bs i))) := by
              refine List.map_congr_left fun i hi => ?_
              have : i ≠ j := by have := List.mem_range.1 hi; omega
              rw [if_neg this]
            rw [e1]
            show World.ownsRow _ _ _ _ _ _ (_ ++ [Value.map (some (if j = j then P else bs j))])
            rw [if_pos rfl]
            exact hrow5
          · by_cases e : i = j
            · subst e
              simp only [if_true]
              exact ⟨hTj, by omega⟩
            · simp only [e, if_false]
              exact ⟨(hTi i (by omega)).1, (hTi i (by omega)).2.1⟩
          · by_cases e1 : i = j
            · by_cases e2 : k = j
              · omega
              · simp only [e1, e2, if_true, if_false] at e
                have := (hTi k (by omega)).2.2
                omega
            · by_cases e2 : k = j
              · simp only [e1, e2, if_true, if_false] at e
                have := (hTi i (by omega)).2.2
                omega
              · simp only [e1, e2, if_false] at e
                exact hap i k (by omega) (by omega) e
    · have hge : ¬ (j : Int) < (m : Int) := by omega
      have hjl : j = m := by omega
      subst hjl
      obtain ⟨g, cap, rfl, hgb, hgl, hgc⟩ := row_openG hrow hm
      go_wp2_with fail
      go_ret
      have hGw : GrowBut w wr [] := hG0.from hG (fun x hx => .inr (by simp at hx; omega))
      refine ⟨B, rfl, g, cap, bs, ⟨hBv, fun i hi => ?_, fun i hi => (htabs i hi).1, hap, fun i hi => ⟨by have := (htabs i hi).2; omega, fun e => ?_⟩, ⟨by have := cell_lt hBv; exact this, hgl⟩, fun i hi => firstF_rng (hl i hi), fun i hi => firstF_wf (hz i hi)⟩, by omega, by omega, fun i hi => by have := (htabs i hi).2; omega, hGw⟩
      · rw [hgc i hi, List.getElem?_map, List.getElem?_range hi]; rfl
      · exact row_ne_tab hrow (htabs i hi).1 (by rw [e]; simp [Value.ownBlock])

end Go.Proofs.Ytonbcchdaboigaa
