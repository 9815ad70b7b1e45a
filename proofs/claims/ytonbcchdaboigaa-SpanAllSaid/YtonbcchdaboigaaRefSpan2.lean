/-
  The reference's rows of pages: Pages, Meets.
-/
import Derived.Test.YtonbcchdaboigaaRefSpan
namespace Go.Proofs.Ytonbcchdaboigaa
open Go Go.RowKit Go.Maps Go.Am
set_option linter.unusedVariables false

def flatS (l : List (Int × Int)) : List Int := l.flatMap fun s => rowK s.1 s.2.toNat

theorem flatS_snoc (l : List (Int × Int)) (s : Int × Int) : flatS (l ++ [s]) = flatS l ++ rowK s.1 s.2.toNat := by simp [flatS]

theorem take_snocJ {l : List (Int × Int)} {j : Nat} (h : j < l.length) : l.take (j + 1) = l.take j ++ [l.getD j (0, 0)] := by
  rw [List.take_add_one, List.getElem?_eq_getElem h, List.getD_eq_getElem?_getD, List.getElem?_eq_getElem h]; rfl

theorem pagesG_flat : ∀ (l : List (Int × Int)) (o out : List Int), pagesG l o = some out → out = o ++ flatS l ∧ ∀ s ∈ l, 1 ≤ s.2 ∧ s.2 ≤ 40 ∧ 0 ≤ s.1 ∧ s.1 + s.2 ≤ 4096
  | [], o, out, h => by cases h; exact ⟨by simp [flatS], fun s hs => by cases hs⟩
  | s :: l, o, out, h => by
    by_cases hk : okG o s = true
    · rw [pagesG_yes hk] at h
      obtain ⟨h1, h2⟩ := pagesG_flat l _ out h
      have h3 := okG_iff.1 hk
      refine ⟨by rw [h1]; simp [flatS], fun x hx => ?_⟩
      rcases List.mem_cons.1 hx with rfl | hx
      · omega
      · exact h2 x hx
    · rw [pagesG_no (by simpa using hk)] at h; cases h

theorem pagesT_flat {l : List (Int × Int)} {out : List Int} (h : pagesT l = some out) : out = flatS l ∧ (1 ≤ l.length ∧ l.length ≤ 8) ∧ ∀ s ∈ l, 1 ≤ s.2 ∧ s.2 ≤ 40 ∧ 0 ≤ s.1 ∧ s.1 + s.2 ≤ 4096 := by
  unfold pagesT at h
  by_cases hl : 1 ≤ l.length ∧ l.length ≤ 8
  · rw [if_pos hl] at h
    obtain ⟨h1, h2⟩ := pagesG_flat l [] out h
    exact ⟨by simpa using h1, hl, h2⟩
  · rw [if_neg hl] at h; cases h

set_option maxRecDepth 100000 in
set_option maxHeartbeats 4000000 in
theorem PagesR_calls (s : Option Addr) (b off c : Nat) (l : List (Int × Int)) (w : World) (hS : SpansIn w s b off l) (hlen : l.length ≤ 100000) :
    Calls Try.prog 16 #[.slice s l.length c] w fun e w' => ∃ v, e = .returned v ∧ GrowBut w w' [] ∧ w'.ownsRow w.heap.size 3 1 v ((pagesT l).getD []).length (((pagesT l).getD []).map (Value.int .i64)) := by
  have hM := mayR_calls s b off c l w hS hlen
  cases hp : pagesT l with
  | none =>
    rw [hp] at hM
    simp only [Option.isSome_none] at hM
    go_enter Try.func16, Try.ntmps16
    go_wp2_with (first
      | (go_at_call 13; (refine hM.mono ?_; rintro e w1 ⟨rfl, hg1⟩))
      | fail)
    go_ret
    exact ⟨_, rfl, hg1, World.ownsRow_nil _ _ _ _⟩
  | some out =>
    rw [hp] at hM
    simp only [Option.isSome_some] at hM
    obtain ⟨ho, ⟨hl1, hl8⟩, hall⟩ := pagesT_flat hp
    obtain ⟨rfl, hcs⟩ := hS (by omega)
    obtain ⟨i0, hi, hz0, hz1, hz2⟩ := info_parts infoW
    go_enter Try.func16, Try.ntmps16
    go_wp2_with (first
      | (go_at_call 13; (refine hM.mono ?_; rintro e w1 ⟨rfl, hg1⟩))
      | fail)
    clear hM
    have hws := hg1.size
    have hL0 := World.ownsRow_nil w1 w1.heap.size 3 1
    go_loopw [3, 4] (fun v3 v4 wx => ∃ j : Nat, v4 = .int .i64 j ∧ j ≤ l.length ∧ (flatS (l.take j)).length ≤ 40 * j ∧ wx.ownsRow w1.heap.size 3 1 v3 (flatS (l.take j)).length ((flatS (l.take j)).map (Value.int .i64)) ∧ GrowBut w1 wx []) (fun _ v4 _ => l.length - intOf v4)
    case atStart => exact ⟨0, rfl, by omega, by simp [flatS], hL0, .refl _ _⟩
    case round =>
      obtain ⟨j, rfl, hj, hfl, hrow, hG⟩ := hrel
      by_cases hlt : j < l.length
      · have hlt' : (j : Int) < (l.length : Int) := by omega
        obtain ⟨c0', c1', hw0, hw1⟩ := hcs j hlt
        have c0'' := hg1.cell c0' (by simp)
        have c1'' := hg1.cell c1' (by simp)
        have htk := take_snocJ hlt
        have hmem : l.getD j (0, 0) ∈ l := by rw [List.getD_eq_getElem?_getD, List.getElem?_eq_getElem hlt]; simp
        have hb := hall _ hmem
        clear hw0 hw1 hcs hS hmem c0' c1'
        generalize l.getD j (0, 0) = sp at c0'' c1'' htk hb
        obtain ⟨p, n⟩ := sp
        simp only at c0'' c1'' hb
        obtain ⟨P, rfl⟩ : ∃ P : Nat, p = P := ⟨p.toNat, by omega⟩
        obtain ⟨N, rfl⟩ : ∃ N : Nat, n = N := ⟨n.toNat, by omega⟩
        have hN40 : N ≤ 40 := by omega
        have hP4 : P + N ≤ 4096 := by omega
        have hsn : flatS (l.take (j + 1)) = flatS (l.take j) ++ rowK P N := by rw [htk, flatS_snoc]; simp
        generalize flatS (l.take j) = A at hfl hrow hsn
        go_wp2_with fail
        go_loopw [3, 5] (fun v3 v5 wx => ∃ k : Nat, v5 = .int .i64 k ∧ k ≤ N ∧ wx.ownsRow w1.heap.size 3 1 v3 (A.length + k) ((A ++ rowK P k).map (Value.int .i64)) ∧ GrowBut w1 wx []) (fun _ v5 _ => N - intOf v5)
        case atStart =>
          have e : rowK (P : Int) 0 = [] := rfl
          exact ⟨0, rfl, by omega, by rw [e, List.append_nil]; exact hrow, hG⟩
        case round =>
          clear hrow hG
          obtain ⟨k, rfl, hk, hrow, hG⟩ := hrel
          have c0 := hG.cell c0'' (by simp)
          have c1 := hG.cell c1'' (by simp)
          by_cases hlk : k < N
          · have hlk' : (k : Int) < (N : Int) := by omega
            have hGs := hG.size
            have hlo3 : ∀ x ∈ u3.ownBlock.toList, w1.heap.size ≤ x := fun x hx => (hrow.lt x (by simpa using hx)).1
            go_wp2_with (first
              | (at_builtin; (refine wpList_append_own _ rfl _ _ 23 rfl w1.heap.size 3 i0 (.int .i64 0) 1 8 Try.underlying23 hi hz0 hz1 hz2 rfl (by decide) _ _ _ rfl (hrow.alloc _) ⟨wr.heap.size, 0, none⟩ 1 1 [.int .i64 ((P : Int) + k)] rfl rfl (cell_one_new _ _ _) (by simp [Value.oneCell']) (by unfold maxLen; omega) (by omega) (by simp; omega) ?_; intro v' w4 hown4 hg4 hnil4; go_frame))
              | fail)
            have hg4' := (GrowBut.alloc wr (.cells #[.int .i64 ((P : Int) + k)] 3) _).trans (GrowBut.of_rowZ (o := u3.ownBlock) hg4)
            exact ⟨⟨k + 1, by simp, by omega, by rw [rowK_succ, ← List.append_assoc, List.map_append]; exact hown4, hG.from hg4' (fun x hx => .inr (hlo3 x hx))⟩, by simp [intOf]; omega⟩
          · have hge : ¬ (k : Int) < (N : Int) := by omega
            have hkN : k = N := by omega
            subst hkN
            have hlen' : (A ++ rowK (P : Int) k).length = A.length + k := by rw [List.length_append, rowK_len]
            go_wp2_with fail
            exact ⟨⟨j + 1, by simp, by omega, by rw [hsn, hlen']; omega, by rw [hsn, hlen']; exact hrow, hG⟩, by simp [intOf]; omega⟩
      · have hjl : j = l.length := by omega
        subst hjl
        rw [List.take_length] at hrow
        have hge : ¬ (l.length : Int) < (l.length : Int) := by omega
        go_wp2_with fail
        go_ret
        exact ⟨u3, rfl, hg1.trans hG, by first | exact row_low hrow hws | (simp only [Option.getD_some]; rw [ho]; exact row_low hrow hws)⟩

theorem pagesG_len : ∀ (l : List (Int × Int)) (o out : List Int), o.length ≤ 40 → pagesG l o = some out → out.length ≤ 40
  | [], o, out, ho, h => by cases h; exact ho
  | s :: l, o, out, ho, h => by
    by_cases hk : okG o s = true
    · rw [pagesG_yes hk] at h
      have h3 := okG_iff.1 hk
      exact pagesG_len l _ out (by rw [List.length_append, rowK_len]; omega) h
    · rw [pagesG_no (by simpa using hk)] at h; cases h

theorem pagesT_len (l : List (Int × Int)) : ((pagesT l).getD []).length ≤ 1000000 := by
  unfold pagesT
  by_cases hl : 1 ≤ l.length ∧ l.length ≤ 8
  · rw [if_pos hl]
    cases h : pagesG l [] with
    | none => simp
    | some out => have := pagesG_len l [] out (by simp) h; simp; omega
  · rw [if_neg hl]; simp

theorem rowI_open {w : World} {base : Nat} {v : Value} {L : List Int} (hrow : w.ownsRow base 3 1 v L.length (L.map (Value.int .i64))) : ∃ s cap g, v = .slice s L.length cap ∧ (0 < L.length → s = some ⟨g, 0, none⟩ ∧ ∀ i, i < L.length → w.cell? ⟨g, i, none⟩ = some (.int .i64 (L.getD i 0))) := by
  obtain ⟨s, cap, rfl⟩ := row_form hrow
  rcases Nat.eq_zero_or_pos L.length with h0 | h0
  · exact ⟨s, cap, 0, rfl, fun h => by omega⟩
  · obtain ⟨g, cap', hv, _, hgl⟩ := row_block hrow h0
    cases hv
    refine ⟨_, _, g, rfl, fun _ => ⟨rfl, fun i hi => ?_⟩⟩
    rw [hrow.cellAt i (by omega), List.getElem?_map, List.getD_eq_getElem?_getD, List.getElem?_eq_getElem hi]; rfl

/-- Is a page of both? -/
def meetsP (x y : List Int) : Bool := x.any fun a => y.contains a

set_option maxRecDepth 100000 in
set_option maxHeartbeats 4000000 in
theorem MeetsR_calls (s1 s2 : Option Addr) (b1 b2 o1 o2 c1 c2 : Nat) (l m : List (Int × Int)) (w : World) (h1 : SpansIn w s1 b1 o1 l) (h2 : SpansIn w s2 b2 o2 m) (hl : l.length ≤ 100000) (hm : m.length ≤ 100000) :
    Calls Try.prog 21 #[.slice s1 l.length c1, .slice s2 m.length c2] w fun e w' => e = .returned (.bool (meetsP ((pagesT l).getD []) ((pagesT m).getD []))) ∧ GrowBut w w' [] := by
  have hA := PagesR_calls s1 b1 o1 c1 l w h1 hl
  have hB := fun w1 (hg : GrowBut w w1 []) => PagesR_calls s2 b2 o2 c2 m w1 (h2.kept hg (by simp)) hm
  have hlenX : ((pagesT l).getD []).length ≤ 1000000 := pagesT_len l
  have hlenY : ((pagesT m).getD []).length ≤ 1000000 := pagesT_len m
  obtain ⟨X, hX⟩ : ∃ X, (pagesT l).getD [] = X := ⟨_, rfl⟩
  obtain ⟨Y, hY⟩ : ∃ Y, (pagesT m).getD [] = Y := ⟨_, rfl⟩
  rw [hX] at hA hlenX ⊢
  rw [hY] at hB hlenY ⊢
  clear hX hY
  go_enter Try.func21, Try.ntmps21
  go_wp2_with (first
    | (go_at_call 16; (refine hA.mono ?_; clear hA; rintro e wa ⟨va, rfl, hga, hrowa⟩; have hB1 := hB wa hga; obtain ⟨sa, ca, ga, rfl, hVa⟩ := rowI_open hrowa))
    | (go_at_call 16; (refine hB1.mono ?_; clear hB1; rintro e wb ⟨vb, rfl, hgb, hrowb⟩; obtain ⟨sb, cb, gb, rfl, hVb⟩ := rowI_open hrowb))
    | fail)
  clear hB
  have hVa' : 0 < X.length → sa = some ⟨ga, 0, none⟩ ∧ ∀ i, i < X.length → wb.cell? ⟨ga, i, none⟩ = some (.int .i64 (X.getD i 0)) := fun h0 => ⟨(hVa h0).1, fun i hi => hgb.cell ((hVa h0).2 i hi) (by simp)⟩
  go_loopw [7] (fun v7 wx => ∃ i : Nat, v7 = .int .i64 i ∧ i ≤ X.length ∧ (∀ a, a ∈ X.take i → a ∉ Y) ∧ GrowBut wb wx []) (fun v7 _ => X.length - intOf v7)
  case atStart => exact ⟨0, rfl, by omega, fun a ha => by simp at ha, .refl _ _⟩
  case round =>
    obtain ⟨i, rfl, hi, hno, hG⟩ := hrel
    by_cases hlt : i < X.length
    · have hlt' : (i : Int) < (X.length : Int) := by omega
      obtain ⟨rfl, hca⟩ := hVa' (by omega)
      have hxa := hca i hlt
      have htk := take_succ_getD hlt
      have hxm : X.getD i 0 ∈ X := by rw [List.getD_eq_getElem?_getD, List.getElem?_eq_getElem hlt]; simp
      clear hca
      generalize X.getD i 0 = x at hxa htk hxm
      go_wp2_with fail
      go_loopw [8] (fun v8 wx => ∃ k : Nat, v8 = .int .i64 k ∧ k ≤ Y.length ∧ x ∉ Y.take k ∧ GrowBut wb wx []) (fun v8 _ => Y.length - intOf v8)
      case atStart => exact ⟨0, rfl, by omega, by simp, hG⟩
      case round =>
        clear hG
        obtain ⟨k, rfl, hk, hnk, hG⟩ := hrel
        by_cases hlk : k < Y.length
        · have hlk' : (k : Int) < (Y.length : Int) := by omega
          obtain ⟨rfl, hcb⟩ := hVb (by omega)
          have cx := hG.cell hxa (by simp)
          have cy := hG.cell (hcb k hlk) (by simp)
          have hyk := take_succ_getD hlk
          have hym : Y.getD k 0 ∈ Y := by rw [List.getD_eq_getElem?_getD, List.getElem?_eq_getElem hlk]; simp
          clear hcb hVa hVa' hVb
          generalize Y.getD k 0 = y at cy hyk hym
          by_cases he : x = y
          · have heb : (x == y) = true := by rw [beq_iff_eq]; exact he
            have hres : meetsP X Y = true := by
              unfold meetsP
              rw [List.any_eq_true]
              exact ⟨x, hxm, by rw [List.contains_iff_mem, he]; exact hym⟩
            clear he
            go_upto_region 8 with fail
            go_quiet (fail)
            go_wp2_with fail
            go_ret
            exact ⟨by first | rfl | (rw [hres]; rfl), (hga.trans hgb).trans (hG.trans (.drewN _ _ _))⟩
          · have heb : (x == y) = false := by rw [beq_eq_false_iff_ne]; exact he
            have hnk' : x ∉ Y.take (k + 1) := by
              rw [hyk, List.mem_append, List.mem_singleton]
              rintro (h | h); exact hnk h; exact he h
            clear he
            go_upto_region 8 with fail
            go_quiet (fail)
            go_wp2_with fail
            exact ⟨⟨k + 1, by simp, by omega, hnk', hG.trans (.drewN _ _ _)⟩, by simp [intOf]; omega⟩
        · have hge : ¬ (k : Int) < (Y.length : Int) := by omega
          have hkl : k = Y.length := by omega
          subst hkl
          rw [List.take_length] at hnk
          go_wp2_with fail
          refine ⟨⟨i + 1, by simp, by omega, fun a ha => ?_, hG⟩, by simp [intOf]; omega⟩
          rw [htk, List.mem_append, List.mem_singleton] at ha
          rcases ha with h | rfl
          · exact hno a h
          · exact hnk
    · have hil : i = X.length := by omega
      subst hil
      rw [List.take_length] at hno
      have hge : ¬ (X.length : Int) < (X.length : Int) := by omega
      have hres : meetsP X Y = false := by
        unfold meetsP
        rw [List.any_eq_false]
        intro a ha h
        rw [List.contains_iff_mem] at h
        exact hno a ha h
      go_wp2_with fail
      go_ret
      exact ⟨by first | rfl | (rw [hres]; rfl), (hga.trans hgb).trans hG⟩

end Go.Proofs.Ytonbcchdaboigaa
