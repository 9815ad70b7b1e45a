/-
  HoldRound: the walk.
-/
import Derived.Test.YtonbcchdaboigaaHoldL
import Derived.Test.YtonbcchdaboigaaSameH
import Derived.Test.YtonbcchdaboigaaHoldB
import Derived.Laws.BitsAllLaws
namespace Go.Proofs.Ytonbcchdaboigaa
open Go Go.RowKit Go.Maps Go.Am Go.Shelf
set_option linter.unusedVariables false

/-- Leaves as they lie in a row. -/
def encL (ls : List (Int × Int)) : List Value := ls.flatMap fun x => [.int .i64 x.1, .int .i64 x.2]

theorem encL_snoc (ls : List (Int × Int)) (x : Int × Int) : encL (ls ++ [x]) = encL ls ++ [.int .i64 x.1, .int .i64 x.2] := by unfold encL; simp

theorem encL_at (ls : List (Int × Int)) : ∀ j, (encL ls)[j * 2]? = (ls[j]?).map (fun x => .int .i64 x.1) ∧ (encL ls)[j * 2 + 1]? = (ls[j]?).map (fun x => .int .i64 x.2) := by
  induction ls with
  | nil => intro j; simp [encL]
  | cons x ls ih =>
    intro j
    have e : encL (x :: ls) = .int .i64 x.1 :: .int .i64 x.2 :: encL ls := by simp [encL]
    rw [e]
    cases j with
    | zero => simp
    | succ j =>
      have := ih j
      rw [show (j + 1) * 2 = j * 2 + 2 by omega]
      simpa using this

theorem encL_len (ls : List (Int × Int)) : (encL ls).length = ls.length * 2 := by
  induction ls with
  | nil => rfl
  | cons x ls ih => simp [encL] at *; omega

theorem leaves_of_row {w : World} {base : Nat} {v : Value} {ls : List (Int × Int)} (hrow : w.ownsRow base 36 2 v ls.length (encL ls)) (h0 : 0 < ls.length) (hw : ∀ x ∈ ls, (Lit.int .i64 x.1).wf = true ∧ (Lit.int .i64 x.2).wf = true) : ∃ g cap, v = .slice (some ⟨g, 0, none⟩) ls.length cap ∧ base ≤ g ∧ g < w.heap.size ∧ LeavesIn w g 0 ls := by
  rcases hrow.2 with ⟨rfl, hz⟩ | ⟨g, cap, cur, rfl, hbase, hb, h1, h2, h3, h4⟩
  · omega
  · have hcell : ∀ i, i < ls.length * 2 → w.cell? ⟨g, i, none⟩ = (encL ls)[i]? := fun i hi => by
      have h5 : (cur.toList.take (ls.length * 2))[i]? = (encL ls)[i]? := by rw [h4]
      rw [List.getElem?_take_of_lt (by omega)] at h5
      rw [← h5]
      simp only [World.cell?, hb]
      simp
    refine ⟨g, cap, rfl, hbase, (Array.getElem?_eq_some_iff.1 hb).1, fun j hj => ?_⟩
    have hm : ls[j]? = some (ls.getD j (0, 0)) := by rw [List.getD_eq_getElem?_getD, List.getElem?_eq_getElem hj]; rfl
    have hin : ls.getD j (0, 0) ∈ ls := List.mem_of_getElem? hm
    refine ⟨?_, ?_, (hw _ hin).1, (hw _ hin).2⟩
    · rw [Nat.zero_add, hcell _ (by omega), (encL_at ls j).1, hm]; rfl
    · rw [Nat.zero_add, hcell _ (by omega), (encL_at ls j).2, hm]; rfl

theorem first8_wf : ∀ x ∈ first8, (Lit.int .i64 x.1).wf = true ∧ (Lit.int .i64 x.2).wf = true := by decide

theorem row_cap {w : World} {base n cap : Nat} {e : TypeId} {s : Option Addr} {xs : List Value} (h : w.ownsRow base e 1 (.slice s n cap) n xs) : n ≤ cap := by
  rcases h.2 with ⟨h1, h2⟩ | ⟨g, c, cur, h1, _, _, r1, _⟩
  · omega
  · cases h1; exact r1

theorem seenN (B g cap m n : Nat) (bs : Nat → Nat) (fs : Nat → PgF) (i : Nat) (w : World) (h : HoldAt w B g cap m n bs fs) (hi : i < m) (hm : m ≤ 1000) (hn : n ≤ 100000) {k : Nat} (hk : (suchP (fs i) fun r => !(r.state == 3)).length = k) :
    Calls Try.prog 26 #[.pointer (some ⟨B, 0, none⟩), .int .i64 i] w fun e w' => ∃ s c, e = .returned (.slice s k c) ∧ GrowBut w w' [] := by
  refine (seen_calls B g cap m n bs fs i w h hi hm hn).mono ?_
  rintro e w' ⟨v, rfl, hrow, hg⟩
  obtain ⟨s, c, rfl⟩ := row_form hrow
  rw [hk]
  exact ⟨s, c, rfl, hg⟩

theorem pagesN (B g cap m n : Nat) (bs : Nat → Nat) (fs : Nat → PgF) (i : Nat) (w : World) (h : HoldAt w B g cap m n bs fs) (hi : i < m) (hm : m ≤ 1000) (hn : n ≤ 100000) {k : Nat} (hk : (keysP (fs i)).length = k) :
    Calls Try.prog 27 #[.pointer (some ⟨B, 0, none⟩), .int .i64 i] w fun e w' => ∃ s c, e = .returned (.slice s k c) ∧ GrowBut w w' [] := by
  refine (pages_calls B g cap m n bs fs i w h hi hm hn).mono ?_
  rintro e w' ⟨v, rfl, hrow, hg⟩
  obtain ⟨s, c, rfl⟩ := row_form hrow
  rw [hk]
  exact ⟨s, c, rfl, hg⟩

theorem outN (B g cap m n : Nat) (bs : Nat → Nat) (fs : Nat → PgF) (i : Nat) (mark : Int) (w : World) (h : HoldAt w B g cap m n bs fs) (hi : i < m) (hm : m ≤ 1000) (hn : n ≤ 100000) {L : List Int} (hL : suchP (fs i) (borrowedB mark) = L) {k : Nat} (hk : L.length = k) {f' : PgF} (hf : awayF (fs i) L = f') :
    Calls Try.prog 28 #[.pointer (some ⟨B, 0, none⟩), .int .i64 i, .int .u64 mark] w fun e w' => ∃ s c, e = .returned (.slice s k c) ∧ HoldAt w' B g cap m n bs (setF fs i f') ∧ GrowBut w w' [bs i] := by
  have := out_calls B g cap m n bs fs i mark w h hi hm hn
  rw [hL, hf] at this
  refine this.mono ?_
  rintro e w' ⟨⟨s, c, _, rfl, _⟩, hH, hg⟩
  rw [hk]
  exact ⟨s, c, rfl, hH, hg⟩

theorem backN (B g cap m n : Nat) (bs : Nat → Nat) (fs : Nat → PgF) (i : Nat) (mark : Int) (w : World) (h : HoldAt w B g cap m n bs fs) (hi : i < m) (hm : m ≤ 1000) (hn : n ≤ 100000) {L : List Int} (hL : suchP (fs i) (givenB mark) = L) {k : Nat} (hk : L.length = k) {f' : PgF} (hf : giveF (fs i) L 1 0 = f') :
    Calls Try.prog 29 #[.pointer (some ⟨B, 0, none⟩), .int .i64 i, .int .u64 mark] w fun e w' => ∃ s c kg, e = .returned (.slice s k c) ∧ RowV w' s kg L ∧ HoldAt w' B g cap m (n + k) bs (setF fs i f') ∧ GrowBut w w' [bs i] := by
  have := back_calls B g cap m n bs fs i mark w h hi hm hn
  rw [hL, hf, hk] at this
  refine this.mono ?_
  rintro e w' ⟨⟨s, c, kg, rfl, hV⟩, hH, hg⟩
  rw [hk]
  exact ⟨s, c, kg, rfl, fun h0 => ⟨(hV h0).1, (hV h0).2.2.1, (hV h0).2.2.2⟩, hH, hg⟩

def twoL : Nat → List (Int × Int) := fun i => if i = 0 then first8 else []

theorem infoL : (Try.prog.info? 36).map (fun i => (i.zero, i.size, i.bytes)) = some (some (.agg #[.int .i64 0, .int .i64 0]), 2, 16) := by kernel_rfl

theorem cell_two_new (w : World) (x y : Value) (t : TypeId) : ∀ (j : Nat) u, ([x, y] : List Value)[j]? = some u → (w.alloc (.cells #[x, y] t)).cell? ((⟨w.heap.size, 0, none⟩ : Addr).add j) = some u := by
  intro j u h
  match j with
  | 0 => simp at h; subst h; simp only [Addr.add]; go_simp
  | 1 => simp at h; subst h; simp only [Addr.add]; go_simp
  | n + 2 => simp at h

theorem bit_of (A j : Nat) (h : A < 256) : (bits .and .u8 ((A : Int) / 2 ^ j) 1 == 1) = decide (A / 2 ^ j % 2 = 1) := by
  have e : (A : Int) / 2 ^ j = ((A / 2 ^ j : Nat) : Int) := by rw [Int.natCast_ediv]; rfl
  have hlt : A / 2 ^ j < 256 := Nat.lt_of_le_of_lt (Nat.div_le_self _ _) h
  rw [e]
  have := u8_and_nat (A / 2 ^ j) 1 hlt (by omega)
  rw [show ((1 : Nat) : Int) = 1 from rfl] at this
  rw [this, nat_mask1]
  by_cases hb : A / 2 ^ j % 2 = 1
  · rw [hb, decide_eq_true rfl]; rfl
  · rw [decide_eq_false hb, beq_eq_false_iff_ne]; omega

theorem row_apart {w : World} {base base' : Nat} {e e' : TypeId} {size size' n n' : Nat} {v v' : Value} {xs xs' : List Value} (h : w.ownsRow base e size v n xs) (h' : w.ownsRow base' e' size' v' n' xs') (hne : e ≠ e') : ∀ j, v.ownBlock = some j → j ∉ v'.ownBlock.toList := by
  intro j hj hm
  rcases h.2 with ⟨rfl, _⟩ | ⟨g, cap, cur, rfl, _, hg, _⟩
  · cases hj
  · rcases h'.2 with ⟨rfl, _⟩ | ⟨g', cap', cur', rfl, _, hg', _⟩
    · cases hm
    · simp [Value.ownBlock] at hj hm
      subst hj
      subst hm
      rw [hg] at hg'
      injection hg' with h1
      injection h1 with _ h2
      exact hne h2

theorem leaves_snoc (l : List Int) (x : Int) : leavesOf (l ++ [x]) = leavesOf l ++ [(20 + x, 1)] := by simp [leavesOf]

theorem leaves_len (l : List Int) : (leavesOf l).length = l.length := by simp [leavesOf]

theorem wf_u8 {a : Int} (h : (Lit.int .u8 a).wf = true) : ∃ A : Nat, a = A ∧ A < 256 := by
  simp only [Lit.wf, Bool.and_eq_true, decide_eq_true_eq] at h
  have hm : IntKind.u8.min = 0 := by decide
  have hM : IntKind.u8.max = 255 := by decide
  rw [hm, hM] at h
  exact ⟨a.toNat, by omega, by omega⟩

theorem first_succ (j : Nat) : (List.range (j + 1)).map (fun k : Nat => ((20 + k : Int), (1 + k % 7 : Int))) = (List.range j).map (fun k : Nat => ((20 + k : Int), (1 + k % 7 : Int))) ++ [((20 + j : Int), (1 + j % 7 : Int))] := by
  rw [List.range_succ, List.map_append]; rfl

set_option maxRecDepth 100000 in
set_option maxHeartbeats 8000000 in
theorem holdRound_walk (a0 a1 a2 a3 : Int) (w : World) (w0 : (Lit.int .u8 a0).wf = true) (w1 : (Lit.int .u8 a1).wf = true) (w2 : (Lit.int .u8 a2).wf = true) (w3 : (Lit.int .u8 a3).wf = true) :
    Calls Try.prog 5 #[.int .u8 a0, .int .u8 a1, .int .u8 a2, .int .u8 a3] w fun e w' => e = .returned (.bool true) ∧ w.grownBy w' none := by
  obtain ⟨A, rfl, hA⟩ := wf_u8 w0
  obtain ⟨K, rfl, hK⟩ := wf_u8 w1
  obtain ⟨T, rfl, hT⟩ := wf_u8 w2
  obtain ⟨i0, hi0, hz0, hz1, hz2⟩ := info_parts infoL
  obtain ⟨k0, hk0, kz0, kz1, kz2⟩ := info_parts infoI
  go_enter Try.func5, Try.ntmps5
  go_wp2_with (first
    | (go_at_call 22; refine (begunHold_calls w).mono ?_; rintro e wb ⟨rfl, hbel⟩)
    | fail)
  have hGb : GrowBut w wb [] := .of_below hbel
  have hsb := hGb.size
  clear hbel
  go_loopw [9, 10] (fun v9 v10 wx => ∃ j : Nat, v10 = .int .i64 j ∧ j ≤ 8 ∧ wx.ownsRow w.heap.size 36 2 v9 j (encL ((List.range j).map fun k : Nat => ((20 + k : Int), (1 + k % 7 : Int)))) ∧ GrowBut w wx []) (fun _ v10 _ => 8 - intN v10)
  case atStart => exact ⟨0, rfl, by omega, World.ownsRow_nil _ _ _ _, hGb⟩
  case round =>
    obtain ⟨j, rfl, hj, hrow, hG⟩ := hrel
    by_cases hlt : j < 8
    · have hlt' : (j : Int) < 8 := by omega
      have hGs := hG.size
      have hfs := first_succ j
      go_wp2_with (first
        | (at_builtin; refine wpList_append_own _ rfl _ _ 34 rfl w.heap.size 36 i0 (.agg #[.int .i64 0, .int .i64 0]) 2 16 Try.underlying34 hi0 hz0 hz1 hz2 rfl (by decide) _ _ _ rfl (hrow.alloc _) ⟨wr.heap.size, 0, none⟩ 1 1 [.int .i64 (20 + j), .int .i64 (1 + j % 7)] rfl rfl (cell_two_new _ _ _ _) (by simp [Value.oneCell']) (by unfold maxLen at *; omega) (by omega) (by simp; omega) ?_; intro v' w4 hown4 hg4 hnil4; go_frame)
        | fail)
      have hG4 := (GrowBut.alloc wr (.cells #[.int .i64 (20 + j), .int .i64 (1 + j % 7)] 36) _).trans (GrowBut.of_rowI (o := u9.ownBlock) hg4)
      exact ⟨⟨j + 1, by simp, by omega, by rw [hfs, encL_snoc]; exact hown4, hG.from hG4 (fun x hx => .inr (hrow.lt x (by simpa using hx)).1)⟩, by simp [intN]; omega⟩
    · obtain rfl : j = 8 := by omega
      obtain ⟨G, cp, rfl, hGb', hGl, hLv⟩ := leaves_of_row (ls := first8) hrow (by decide) first8_wf
      have hGs := hG.size
      have hga := GrowBut.alloc wr (.cells #[.slice (some ⟨G, 0, none⟩) 8 cp, .slice none 0 0] 34) []
      have hc0 : (wr.alloc (.cells #[.slice (some ⟨G, 0, none⟩) 8 cp, .slice none 0 0] 34)).cell? ⟨wr.heap.size, 0, none⟩ = some (.slice (some ⟨G, 0, none⟩) 8 cp) := by go_simp
      have hc1 : (wr.alloc (.cells #[.slice (some ⟨G, 0, none⟩) 8 cp, .slice none 0 0] 34)).cell? ⟨wr.heap.size, 1, none⟩ = some (.slice none 0 0) := by go_simp
      have hN := newH_calls wr.heap.size 2 2 twoL (wr.alloc (.cells #[.slice (some ⟨G, 0, none⟩) 8 cp, .slice none 0 0] 34)) (by omega) (by omega) (fun i hi => by
        rcases (show i = 0 ∨ i = 1 by omega) with rfl | rfl
        · exact ⟨_, cp, hc0, fun _ => ⟨G, 0, rfl, hLv.kept hga (by simp)⟩⟩
        · exact ⟨none, 0, hc1, fun h => absurd h (by decide)⟩) (fun i hi => by
        rcases (show i = 0 ∨ i = 1 by omega) with rfl | rfl <;> decide)
      have hGa := hG.trans hga
      clear hc0 hc1 hga hLv hrow
      have hGas := hGa.size
      go_wp2_with (first
        | (go_at_call 23; refine hN.mono ?_; rintro e wn ⟨B, g, cap, bs, rfl, hH, hBl, hgl, hbl, hgn⟩)
        | fail)
      have hGn := hGa.trans hgn
      have hns := hgn.size
      go_loopw [12, 13, 14] (fun v12 v13 v14 wx => ∃ j : Nat, v14 = .int .i64 j ∧ j ≤ 8 ∧ wx.ownsRow wn.heap.size 3 1 v12 (picks A j).length ((picks A j).map (Value.int .i64)) ∧ wx.ownsRow wn.heap.size 36 2 v13 (leavesOf (picks A j)).length (encL (leavesOf (picks A j))) ∧ GrowBut wn wx []) (fun _ _ v14 _ => 8 - intN v14)
      case atStart => exact ⟨0, rfl, by omega, World.ownsRow_nil _ _ _ _, World.ownsRow_nil _ _ _ _, .refl _ _⟩
      case round =>
        obtain ⟨j, rfl, hj, hrp, hrl, hGx⟩ := hrel
        by_cases hlt : j < 8
        · have hlt' : (j : Int) < 8 := by omega
          have hb := bit_of A j hA
          have hps := picks_succ A j
          have hpl := picks_len A j
          have hGxs := hGx.size
          have hlo12 : ∀ x ∈ u12.ownBlock.toList, wn.heap.size ≤ x := fun x hx => (hrp.lt x (by simpa using hx)).1
          have hlo13 : ∀ x ∈ u13.ownBlock.toList, wn.heap.size ≤ x := fun x hx => (hrl.lt x (by simpa using hx)).1
          by_cases hbit : A / 2 ^ j % 2 = 1
          · rw [decide_eq_true hbit] at hb
            rw [if_pos hbit] at hps
            clear hbit
            generalize picks A j = M at hrp hrl hps hpl
            have hls := leaves_snoc M j
            have hll := leaves_len M
            rw [← hps] at hls
            go_wp2_with (first
              | (at_builtin; refine wpList_append_own _ rfl _ _ 23 rfl wn.heap.size 3 k0 (.int .i64 0) 1 8 Try.underlying23 hk0 kz0 kz1 kz2 rfl (by decide) _ _ _ rfl (hrp.alloc _) ⟨wr.heap.size, 0, none⟩ 1 1 [.int .i64 j] rfl rfl (cell_one_new _ _ _) (by simp [Value.oneCell']) (by unfold maxLen at *; omega) (by omega) (by simp; omega) ?_; intro v' w4 hown4 hg4 hnil4; have hg4' := (GrowBut.alloc wr (.cells #[.int .i64 j] 3) _).trans (GrowBut.of_rowI (o := u12.ownBlock) hg4); clear hnil4 hg4; have hrl4 := hg4'.row hrl (row_apart hrl hrp (by decide)); have hs4 := hg4'.size; clear hrp; go_frame)
              | (at_builtin; refine wpList_append_own _ rfl _ _ 34 rfl wn.heap.size 36 i0 (.agg #[.int .i64 0, .int .i64 0]) 2 16 Try.underlying34 hi0 hz0 hz1 hz2 rfl (by decide) _ _ _ rfl (hrl4.alloc _) ⟨w4.heap.size, 0, none⟩ 1 1 [.int .i64 (20 + j), .int .i64 1] rfl rfl (cell_two_new _ _ _ _) (by simp [Value.oneCell']) (by unfold maxLen at *; omega) (by omega) (by simp; omega) ?_; intro v5 w5 hown5 hg5 hnil5; have hg5' := (GrowBut.alloc w4 (.cells #[.int .i64 (20 + j), .int .i64 1] 36) _).trans (GrowBut.of_rowI (o := u13.ownBlock) hg5); clear hnil5 hg5; go_frame)
              | fail)
            have hown5' := hg5'.row hown4 (row_apart hown4 hrl4 (by decide))
            exact ⟨⟨j + 1, by simp, by omega, by rw [hps, List.length_append, List.map_append]; exact hown5', by rw [hls, encL_snoc, List.length_append]; exact hown5, (hGx.from hg4' (fun x hx => .inr (hlo12 x hx))).from hg5' (fun x hx => .inr (hlo13 x hx))⟩, by simp [intN]; omega⟩
          · rw [decide_eq_false hbit] at hb
            rw [if_neg hbit, List.append_nil] at hps
            clear hbit
            go_wp2_with fail
            exact ⟨⟨j + 1, by simp, by omega, by rw [hps]; exact hrp, by rw [hps]; exact hrl, hGx⟩, by simp [intN]; omega⟩
        · obtain rfl : j = 8 := by omega
          have hri := picks_rises A 8
          have hin := picks_in A
          have hpl := picks_len A 8
          have hll := leaves_len (picks A 8)
          generalize picks A 8 = zs at hrp hrl hri hin hpl hll
          have hHx := hH.kept hGx (by simp) (by simp) (by simp)
          have hns' := hGx.size
          have hbsl : ∀ i, i < 2 → bs i < wn.heap.size := fun i hi => (hH.tabs i hi).blt
          clear hN hH
          rcases Nat.eq_zero_or_pos zs.length with h0 | h0
          · obtain rfl := List.length_eq_zero_iff.1 h0
            obtain ⟨s1, cp1, g1, rfl, _⟩ := row_open hrp rfl
            obtain ⟨s2, cp2, rfl⟩ := row_form hrl
            have hG1 := give_none B g cap 2 100 bs _ 0 s1 cp1 (1 + (K : Int) % 3) 9 wr hHx (by omega) (by omega) (by omega)
            rw [show ((0 : Nat) : Int) = 0 from rfl] at hG1
            have hP1 := fun w5 (hg : GrowBut wr w5 []) => put_none B g cap 2 100 bs _ 1 s2 cp2 0 9 w5 (hHx.kept hg (by simp) (by simp) (by simp)) (by omega) (by omega)
            simp only [show ((1 : Nat) : Int) = 1 from rfl] at hP1
            have hl2 : (leavesOf []).length = 0 := rfl
            have hl1 : ([] : List Int).length = 0 := rfl
            rw [hl2]
            rw [hl1]
            clear hrp hrl hHx hri hin hll hl1 hl2
            go_wp2_with (first
              | (go_at_call 24; refine hG1.mono ?_; clear hG1; rintro e w5 ⟨rfl, hg5⟩; have hP2 := hP1 w5 hg5)
              | (go_at_call 25; refine hP2.mono ?_; rintro e w6 ⟨rfl, hg6⟩)
              | fail)
            go_ret
            exact ⟨rfl, ((hGn.trans hGx).trans (hg5.trans hg6)).keepAll⟩
          · obtain ⟨st, hst, hst2⟩ : ∃ st : Int, ((1 + (K : Int) % 3 = 1 ∧ st = 2) ∨ (1 + (K : Int) % 3 ≠ 1 ∧ st = 3)) ∧ (st = 2 ∨ st = 3) := by
              by_cases h : 1 + (K : Int) % 3 = 1
              · exact ⟨2, .inl ⟨h, rfl⟩, .inl rfl⟩
              · exact ⟨3, .inr ⟨h, rfl⟩, .inr rfl⟩
            obtain ⟨s1, cp1, gp, rfl, hop⟩ := row_open hrp rfl
            obtain ⟨rfl, hgp, hgpl, hcp⟩ := hop h0
            obtain ⟨gl, cp2, rfl, hgl', hgll, hLz⟩ := leaves_of_row hrl (by omega) (fun x hx => by
              unfold leavesOf at hx
              obtain ⟨y, hy, rfl⟩ := List.mem_map.1 hx
              have := mem_eight.1 (hin y hy)
              exact ⟨wf_small (by omega) (by omega), wf_small (by omega) (by omega)⟩)
            have hRI : RowIn wr gp 0 zs := fun j hj => ⟨by rw [Nat.zero_add]; exact hcp j hj, by have := mem_eight.1 (hin _ (getD_mem hj)); exact wf_small (by omega) (by omega)⟩
            have e0 : (fun i => firstF (twoL i)) 0 = firstF first8 := rfl
            have e1 : (fun i => firstF (twoL i)) 1 = fun _ => none := first_nil
            generalize (fun i => firstF (twoL i)) = fs at hHx e0 e1
            have hnd : zs.Nodup := hri.imp fun h => by omega
            have hzo : ∀ x ∈ zs, ∃ r, fs 0 x = some r ∧ r.state = 1 := fun x hx => by
              rw [e0, f8_at, if_pos (mem_eight.1 (hin x hx))]; exact ⟨_, rfl, rfl⟩
            have hkr : 1 ≤ 1 + (K : Int) % 3 ∧ 1 + (K : Int) % 3 ≤ 3 := by omega
            have hGv := give_ok B g cap 2 100 bs fs 0 gp 0 cp1 zs (1 + (K : Int) % 3) 9 wr hHx (by omega) (by omega) (by omega) hRI (by omega) h0 hkr st hst (by decide) (fun i hi => by have := hbsl i hi; omega) hzo hnd
            rw [show ((0 : Nat) : Int) = 0 from rfl] at hGv
            have hb0 := hbsl 0 (by omega)
            have hb1 := hbsl 1 (by omega)
            have hPut := fun w5 (hH5 : HoldAt w5 B g cap 2 (100 + zs.length) bs (setF fs 0 (giveF (fs 0) zs st 9))) (hg5 : GrowBut wr w5 [bs 0]) => put_ok B g cap 2 (100 + zs.length) bs (setF fs 0 (giveF (fs 0) zs st 9)) 1 gl 0 cp2 T 9 (leavesOf zs) w5 hH5 (by omega) (by omega) (by omega) (hLz.kept hg5 (fun _ => by simp; omega)) (by omega) (by omega) (by omega) (by omega) 4 (.inr ⟨by decide, rfl⟩) (by decide) (fun i hi => by have := hbsl i hi; omega) (fun j hj => by simp [setF, e1])
            simp only [show ((1 : Nat) : Int) = 1 from rfl, hll] at hPut
            have hcp1 := Nat.le_trans h0 (row_cap hrp)
            have hst1 : st ≠ 1 := by rcases hst2 with rfl | rfl <;> decide
            have hz0 : zs.getD 0 0 ∈ zs := getD_mem h0
            have hGd := fun w6 N2 fs2 (hH6 : HoldAt w6 B g cap 2 N2 bs fs2) (hN2 : N2 ≤ 1000) (f20 : fs2 0 = giveF (firstF first8) zs st 9) (hr6 : RowIn w6 gp 0 zs) => give_denied B g cap 2 N2 bs fs2 0 gp 0 cp1 [zs.getD 0 0] (1 + (K : Int) % 3) 9 w6 hH6 (by omega) (by omega) (by omega) (fun j hj => by
              have hj0 : j = 0 := by simpa using hj
              subst hj0
              exact hr6 0 h0) (by simp) hkr (fun i hi => by have := hbsl i hi; omega) 0 (by simp) (fun j hj => by omega) (.inl (by
                show ((fs2 0 (zs.getD 0 0)).getD ⟨0, 0, 0, 0⟩).state ≠ 1
                rw [f20, given_at, if_pos (mem_eight.1 (hin _ hz0)), if_pos hz0]
                exact hst1))
            simp only [show ((0 : Nat) : Int) = 0 from rfl, show ([zs.getD 0 0] : List Int).length = 1 from rfl] at hGd
            have hPd := fun w7 N2 fs2 (hH7 : HoldAt w7 B g cap 2 N2 bs fs2) (f21 : fs2 1 = putsF (fun _ => none) T (leavesOf zs) 4 9) => (show Calls Try.prog _ _ w7 _ from by
              obtain ⟨r0, hr0⟩ : ∃ r0, fs2 1 ((T : Int) + (0 : Nat)) = some r0 := Option.isSome_iff_exists.1 (by rw [f21, put_isSome, decide_eq_true_eq]; omega)
              exact put_denied B g cap 2 N2 bs fs2 1 gl 0 cp2 T 9 (leavesOf zs).length w7 hH7 (by omega) (by omega) (by omega) (by omega) (by omega) 0 (by omega) (fun j hj => by omega) r0 hr0)
            simp only [show ((1 : Nat) : Int) = 1 from rfl, hll] at hPd
            have hbw0 := hbl 0 (by omega)
            have hbw1 := hbl 1 (by omega)
            rcases hst with ⟨hk, rfl⟩ | ⟨hk, rfl⟩
            · have hkb : ((1 + (K : Int) % 3) == 1) = true := by rw [hk]; rfl
              clear hk
              have hs8 := seen_two (zs := zs)
              go_upto_region 31 with (first
                | (go_at_call 24; refine hGv.mono ?_; clear hGv; rintro e w5 ⟨rfl, hH5, hg5⟩; have hP1 := hPut w5 hH5 hg5; clear hPut)
                | (go_at_call 25; (refine hP1.mono ?_; clear hP1; rintro e w6 ⟨rfl, hH6, hg6⟩; obtain ⟨fs2, N2, hH6', hN2, f20, f21⟩ : ∃ fs2 N2, HoldAt w6 B g cap 2 N2 bs fs2 ∧ N2 ≤ 1000 ∧ fs2 0 = giveF (firstF first8) zs 2 9 ∧ fs2 1 = putsF (fun _ => none) T (leavesOf zs) 4 9 := ⟨_, _, hH6, by omega, by simp [setF, e0], by simp [setF, e1]⟩; clear hH6; have hg06 := (hg5.mono (l' := [bs 0, bs 1]) (by simp)).trans (hg6.mono (by simp)); have hG2 := hGd w6 N2 fs2 hH6' hN2 f20 (fun j hj => ⟨hg06.cell (hRI j hj).1 (by simp; omega), (hRI j hj).2⟩); clear hGd))
                | (go_at_call 24; (refine hG2.mono ?_; clear hG2; rintro e w7 ⟨rfl, hg7⟩; have hH7 := hH6'.kept hg7 (by simp) (by simp) (by simp); have hP2 := hPd w7 N2 fs2 hH7 f21; clear hPd))
                | (go_at_call 25; (refine hP2.mono ?_; clear hP2; rintro e w8 ⟨rfl, hg8⟩; have hH8 := hH7.kept hg8 (by simp) (by simp) (by simp); have hS8 := seenN B g cap 2 N2 bs fs2 0 w8 hH8 (by omega) (by omega) (by omega) (k := 8) (by rw [f20]; exact hs8); rw [show ((0 : Nat) : Int) = 0 from rfl] at hS8))
                | (go_at_call 26; (refine hS8.mono ?_; clear hS8; rintro e w9 ⟨s9, c9, rfl, hg9⟩; have hH9 := hH8.kept hg9 (by simp) (by simp) (by simp); have hA9 := pagesN B g cap 2 N2 bs fs2 0 w9 hH9 (by omega) (by omega) (by omega) (k := 8) (by rw [f20, given_keys]; rfl); rw [show ((0 : Nat) : Int) = 0 from rfl] at hA9))
                | (go_at_call 27; (refine hA9.mono ?_; clear hA9; rintro e w10 ⟨s10, c10, rfl, hg10⟩; have hH10 := hH9.kept hg10 (by simp) (by simp) (by simp); have hA10 := pagesN B g cap 2 N2 bs fs2 1 w10 hH10 (by omega) (by omega) (by omega) (k := zs.length) (by rw [f21, put_keys_len (by omega) (by omega), hll]); rw [show ((1 : Nat) : Int) = 1 from rfl] at hA10))
                | (go_at_call 27; (refine hA10.mono ?_; clear hA10; rintro e w11 ⟨s11, c11, rfl, hg11⟩; have hH11 := hH10.kept hg11 (by simp) (by simp) (by simp); have hO11 := outN B g cap 2 N2 bs fs2 1 9 w11 hH11 (by omega) (by omega) (by omega) (L := keysP (putsF (fun _ => none) T (leavesOf zs) 4 9)) (by rw [f21]; exact put_out) (k := zs.length) (by rw [put_keys_len (by omega) (by omega), hll]) (f' := fun _ => none) (by rw [f21]; exact put_gone (by omega) (by omega)); rw [show ((1 : Nat) : Int) = 1 from rfl] at hO11))
                | (go_at_call 28; (refine hO11.mono ?_; clear hO11; rintro e w12 ⟨s12, c12, rfl, hH12, hg12⟩; have hB12 := backN B g cap 2 N2 bs (setF fs2 1 fun _ => none) 0 9 w12 hH12 (by omega) (by omega) (by omega) (L := zs) (by rw [show setF fs2 1 (fun _ => none) 0 = fs2 0 by simp [setF], f20]; exact given_back (by first | exact .inl rfl | exact .inr rfl) hri hin) (k := zs.length) rfl (f' := firstF first8) (by rw [show setF fs2 1 (fun _ => none) 0 = fs2 0 by simp [setF], f20]; exact given_undone); rw [show ((0 : Nat) : Int) = 0 from rfl] at hB12))
                | (go_at_call 29; (refine hB12.mono ?_; clear hB12; rintro e w13 ⟨s13, c13, g13, rfl, hV13, hH13, hg13⟩; have hg26 : GrowBut wr w13 [bs 0, bs 1] := (hg06.trans ((((hg7.trans hg8).trans (hg9.trans hg10)).trans hg11).mono (by simp))).trans ((hg12.mono (by simp)).trans (hg13.mono (by simp))); have hSm := sameH_calls s13 (some ⟨gp, 0, none⟩) g13 gp c13 cp1 zs zs w13 hV13 (fun _ => ⟨rfl, Nat.lt_of_lt_of_le hgpl hg26.size, fun j hj => by have := hg26.cell (hRI j hj).1 (by simp; omega); rwa [Nat.zero_add] at this⟩) (by omega); rw [decide_eq_true rfl] at hSm; obtain ⟨fs3, N3, hH13', hN3, f30, f31⟩ : ∃ fs3 N3, HoldAt w13 B g cap 2 N3 bs fs3 ∧ N3 ≤ 2000 ∧ fs3 0 = firstF first8 ∧ fs3 1 = fun _ => none := ⟨_, _, hH13, by omega, by simp [setF], by simp [setF]⟩; clear hH13))
                | (go_at_call 30; (refine hSm.mono ?_; clear hSm; rintro e w14 ⟨rfl, hg14⟩; have hH14 := hH13'.kept hg14 (by simp) (by simp) (by simp); have hG14 := ((hGn.trans hGx).from (hg26.mono (l' := [bs 0, bs 1]) (by simp)) (fun x hx => .inr (by simp at hx; omega))).trans hg14))
                | fail)
              all_goals try (exfalso; omega)
              go_wp2_with fail
              go_loopw [21] (fun v21 wx => ∃ j : Nat, v21 = .int .i64 j ∧ j ≤ 8 ∧ GrowBut w14 wx []) (fun v21 _ => 8 - intN v21)
              case atStart => exact ⟨0, rfl, by omega, .refl _ _⟩
              case round =>
                obtain ⟨j, rfl, hj, hGy⟩ := hrel
                have hHy := hH14.kept hGy (by simp) (by simp) (by simp)
                by_cases hlt : j < 8
                · have hlt' : (j : Int) < 8 := by omega
                  have hGt := get_in B g cap 2 N3 bs fs3 0 j _ hHy (by omega) (by omega) (wf_small (by omega) (by omega))
                  rw [f30, f8_at, if_pos (by omega), show ((0 : Nat) : Int) = 0 from rfl] at hGt
                  simp only [Option.getD_some, Option.isSome_some, encP] at hGt
                  go_wp2_with (first
                    | (go_at_call 31; (refine hGt.mono ?_; rintro e wg ⟨rfl, hgg⟩))
                    | fail)
                  exact ⟨⟨j + 1, by simp, by omega, hGy.trans (hgg.trans (GrowBut.alloc _ _ _))⟩, by simp [intN]; omega⟩
                · obtain rfl : j = 8 := by omega
                  have hP1 := pagesN B g cap 2 N3 bs fs3 1 _ hHy (by omega) (by omega) (by omega) (k := 0) (by rw [f31, none_keys]; rfl)
                  rw [show ((1 : Nat) : Int) = 1 from rfl] at hP1
                  go_wp2_with (first
                    | (go_at_call 27; (refine hP1.mono ?_; rintro e wp ⟨sp, cpp, rfl, hgp'⟩; have hHp := hHy.kept hgp' (by simp) (by simp) (by simp); have hOp := outN B g cap 2 N3 bs fs3 1 9 wp hHp (by omega) (by omega) (by omega) (L := []) (by rw [f31]; exact none_such _) (k := 0) rfl (f' := fun _ => none) (by rw [f31]; funext x; simp [awayF]); rw [show ((1 : Nat) : Int) = 1 from rfl] at hOp))
                    | (go_at_call 28; (refine hOp.mono ?_; rintro e wq ⟨sq, cq, rfl, hHq, hgq⟩; have hBq := backN B g cap 2 N3 bs (setF fs3 1 fun _ => none) 0 9 wq hHq (by omega) (by omega) (by omega) (L := []) (by rw [show setF fs3 1 (fun _ => none) 0 = fs3 0 by simp [setF], f30]; exact first_none) (k := 0) rfl (f' := firstF first8) (by rw [show setF fs3 1 (fun _ => none) 0 = fs3 0 by simp [setF], f30]; funext x; simp [giveF]); rw [show ((0 : Nat) : Int) = 0 from rfl] at hBq))
                    | (go_at_call 29; (refine hBq.mono ?_; rintro e wz ⟨sz, cz, gz, rfl, _, _, hgz⟩))
                    | fail)
                  go_ret
                  exact ⟨rfl, ((((hG14.trans hGy).trans hgp').from (hgq.mono (l' := [bs 0, bs 1]) (by simp)) (fun x hx => .inr (by simp at hx; omega))).from (hgz.mono (l' := [bs 0, bs 1]) (by simp)) (fun x hx => .inr (by simp at hx; omega))).keepAll⟩
            · have hkb : ((1 + (K : Int) % 3) == 1) = false := by rw [beq_eq_false_iff_ne]; exact hk
              clear hk
              obtain ⟨n8, hs8⟩ : ∃ n8, (suchP (giveF (firstF first8) zs 3 9) fun r => !(r.state == 3)).length = n8 := ⟨_, rfl⟩
              have hn8 : n8 + zs.length = 8 := by have := seen_three hri hin; rw [hs8] at this; exact this
              go_upto_region 31 with (first
                | (go_at_call 24; refine hGv.mono ?_; clear hGv; rintro e w5 ⟨rfl, hH5, hg5⟩; have hP1 := hPut w5 hH5 hg5; clear hPut)
                | (go_at_call 25; (refine hP1.mono ?_; clear hP1; rintro e w6 ⟨rfl, hH6, hg6⟩; obtain ⟨fs2, N2, hH6', hN2, f20, f21⟩ : ∃ fs2 N2, HoldAt w6 B g cap 2 N2 bs fs2 ∧ N2 ≤ 1000 ∧ fs2 0 = giveF (firstF first8) zs 3 9 ∧ fs2 1 = putsF (fun _ => none) T (leavesOf zs) 4 9 := ⟨_, _, hH6, by omega, by simp [setF, e0], by simp [setF, e1]⟩; clear hH6; have hg06 := (hg5.mono (l' := [bs 0, bs 1]) (by simp)).trans (hg6.mono (by simp)); have hG2 := hGd w6 N2 fs2 hH6' hN2 f20 (fun j hj => ⟨hg06.cell (hRI j hj).1 (by simp; omega), (hRI j hj).2⟩); clear hGd))
                | (go_at_call 24; (refine hG2.mono ?_; clear hG2; rintro e w7 ⟨rfl, hg7⟩; have hH7 := hH6'.kept hg7 (by simp) (by simp) (by simp); have hP2 := hPd w7 N2 fs2 hH7 f21; clear hPd))
                | (go_at_call 25; (refine hP2.mono ?_; clear hP2; rintro e w8 ⟨rfl, hg8⟩; have hH8 := hH7.kept hg8 (by simp) (by simp) (by simp); have hS8 := seenN B g cap 2 N2 bs fs2 0 w8 hH8 (by omega) (by omega) (by omega) (k := n8) (by rw [f20]; exact hs8); rw [show ((0 : Nat) : Int) = 0 from rfl] at hS8))
                | (go_at_call 26; (refine hS8.mono ?_; clear hS8; rintro e w9 ⟨s9, c9, rfl, hg9⟩; have hH9 := hH8.kept hg9 (by simp) (by simp) (by simp); have hA9 := pagesN B g cap 2 N2 bs fs2 0 w9 hH9 (by omega) (by omega) (by omega) (k := 8) (by rw [f20, given_keys]; rfl); rw [show ((0 : Nat) : Int) = 0 from rfl] at hA9))
                | (go_at_call 27; (refine hA9.mono ?_; clear hA9; rintro e w10 ⟨s10, c10, rfl, hg10⟩; have hH10 := hH9.kept hg10 (by simp) (by simp) (by simp); have hA10 := pagesN B g cap 2 N2 bs fs2 1 w10 hH10 (by omega) (by omega) (by omega) (k := zs.length) (by rw [f21, put_keys_len (by omega) (by omega), hll]); rw [show ((1 : Nat) : Int) = 1 from rfl] at hA10))
                | (go_at_call 27; (refine hA10.mono ?_; clear hA10; rintro e w11 ⟨s11, c11, rfl, hg11⟩; have hH11 := hH10.kept hg11 (by simp) (by simp) (by simp); have hO11 := outN B g cap 2 N2 bs fs2 1 9 w11 hH11 (by omega) (by omega) (by omega) (L := keysP (putsF (fun _ => none) T (leavesOf zs) 4 9)) (by rw [f21]; exact put_out) (k := zs.length) (by rw [put_keys_len (by omega) (by omega), hll]) (f' := fun _ => none) (by rw [f21]; exact put_gone (by omega) (by omega)); rw [show ((1 : Nat) : Int) = 1 from rfl] at hO11))
                | (go_at_call 28; (refine hO11.mono ?_; clear hO11; rintro e w12 ⟨s12, c12, rfl, hH12, hg12⟩; have hB12 := backN B g cap 2 N2 bs (setF fs2 1 fun _ => none) 0 9 w12 hH12 (by omega) (by omega) (by omega) (L := zs) (by rw [show setF fs2 1 (fun _ => none) 0 = fs2 0 by simp [setF], f20]; exact given_back (by first | exact .inl rfl | exact .inr rfl) hri hin) (k := zs.length) rfl (f' := firstF first8) (by rw [show setF fs2 1 (fun _ => none) 0 = fs2 0 by simp [setF], f20]; exact given_undone); rw [show ((0 : Nat) : Int) = 0 from rfl] at hB12))
                | (go_at_call 29; (refine hB12.mono ?_; clear hB12; rintro e w13 ⟨s13, c13, g13, rfl, hV13, hH13, hg13⟩; have hg26 : GrowBut wr w13 [bs 0, bs 1] := (hg06.trans ((((hg7.trans hg8).trans (hg9.trans hg10)).trans hg11).mono (by simp))).trans ((hg12.mono (by simp)).trans (hg13.mono (by simp))); have hSm := sameH_calls s13 (some ⟨gp, 0, none⟩) g13 gp c13 cp1 zs zs w13 hV13 (fun _ => ⟨rfl, Nat.lt_of_lt_of_le hgpl hg26.size, fun j hj => by have := hg26.cell (hRI j hj).1 (by simp; omega); rwa [Nat.zero_add] at this⟩) (by omega); rw [decide_eq_true rfl] at hSm; obtain ⟨fs3, N3, hH13', hN3, f30, f31⟩ : ∃ fs3 N3, HoldAt w13 B g cap 2 N3 bs fs3 ∧ N3 ≤ 2000 ∧ fs3 0 = firstF first8 ∧ fs3 1 = fun _ => none := ⟨_, _, hH13, by omega, by simp [setF], by simp [setF]⟩; clear hH13))
                | (go_at_call 30; (refine hSm.mono ?_; clear hSm; rintro e w14 ⟨rfl, hg14⟩; have hH14 := hH13'.kept hg14 (by simp) (by simp) (by simp); have hG14 := ((hGn.trans hGx).from (hg26.mono (l' := [bs 0, bs 1]) (by simp)) (fun x hx => .inr (by simp at hx; omega))).trans hg14))
                | fail)
              all_goals try (exfalso; omega)
              go_wp2_with fail
              go_loopw [21] (fun v21 wx => ∃ j : Nat, v21 = .int .i64 j ∧ j ≤ 8 ∧ GrowBut w14 wx []) (fun v21 _ => 8 - intN v21)
              case atStart => exact ⟨0, rfl, by omega, .refl _ _⟩
              case round =>
                obtain ⟨j, rfl, hj, hGy⟩ := hrel
                have hHy := hH14.kept hGy (by simp) (by simp) (by simp)
                by_cases hlt : j < 8
                · have hlt' : (j : Int) < 8 := by omega
                  have hGt := get_in B g cap 2 N3 bs fs3 0 j _ hHy (by omega) (by omega) (wf_small (by omega) (by omega))
                  rw [f30, f8_at, if_pos (by omega), show ((0 : Nat) : Int) = 0 from rfl] at hGt
                  simp only [Option.getD_some, Option.isSome_some, encP] at hGt
                  go_wp2_with (first
                    | (go_at_call 31; (refine hGt.mono ?_; rintro e wg ⟨rfl, hgg⟩))
                    | fail)
                  exact ⟨⟨j + 1, by simp, by omega, hGy.trans (hgg.trans (GrowBut.alloc _ _ _))⟩, by simp [intN]; omega⟩
                · obtain rfl : j = 8 := by omega
                  have hP1 := pagesN B g cap 2 N3 bs fs3 1 _ hHy (by omega) (by omega) (by omega) (k := 0) (by rw [f31, none_keys]; rfl)
                  rw [show ((1 : Nat) : Int) = 1 from rfl] at hP1
                  go_wp2_with (first
                    | (go_at_call 27; (refine hP1.mono ?_; rintro e wp ⟨sp, cpp, rfl, hgp'⟩; have hHp := hHy.kept hgp' (by simp) (by simp) (by simp); have hOp := outN B g cap 2 N3 bs fs3 1 9 wp hHp (by omega) (by omega) (by omega) (L := []) (by rw [f31]; exact none_such _) (k := 0) rfl (f' := fun _ => none) (by rw [f31]; funext x; simp [awayF]); rw [show ((1 : Nat) : Int) = 1 from rfl] at hOp))
                    | (go_at_call 28; (refine hOp.mono ?_; rintro e wq ⟨sq, cq, rfl, hHq, hgq⟩; have hBq := backN B g cap 2 N3 bs (setF fs3 1 fun _ => none) 0 9 wq hHq (by omega) (by omega) (by omega) (L := []) (by rw [show setF fs3 1 (fun _ => none) 0 = fs3 0 by simp [setF], f30]; exact first_none) (k := 0) rfl (f' := firstF first8) (by rw [show setF fs3 1 (fun _ => none) 0 = fs3 0 by simp [setF], f30]; funext x; simp [giveF]); rw [show ((0 : Nat) : Int) = 0 from rfl] at hBq))
                    | (go_at_call 29; (refine hBq.mono ?_; rintro e wz ⟨sz, cz, gz, rfl, _, _, hgz⟩))
                    | fail)
                  go_ret
                  exact ⟨rfl, ((((hG14.trans hGy).trans hgp').from (hgq.mono (l' := [bs 0, bs 1]) (by simp)) (fun x hx => .inr (by simp at hx; omega))).from (hgz.mono (l' := [bs 0, bs 1]) (by simp)) (fun x hx => .inr (by simp at hx; omega))).keepAll⟩

end Go.Proofs.Ytonbcchdaboigaa
