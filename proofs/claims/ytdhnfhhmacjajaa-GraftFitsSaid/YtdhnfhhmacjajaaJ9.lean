/-
  walk.Path, walk.Walk.
-/
import Derived.Test.YtdhnfhhmacjajaaJ4
import Derived.Test.YtdhnfhhmacjajaaJ8
import Derived.Maps.RangeRun

namespace Go.Proofs.Ytdhnfhhmacjajaa
open Go Go.RowKit Go.Maps Go.Am Go.Shelf
set_option linter.unusedVariables false
set_option linter.unusedSimpArgs false

set_option maxRecDepth 100000 in
set_option maxHeartbeats 4000000 in
theorem pathIn (p : Nat) (w : World) (hp : p < 4096) : Calls Try.prog 38 #[.int .i64 p] w fun e w' => e = .returned (.tuple #[.int .i64 ((p : Int) / 256), .int .i64 ((p : Int) / 16 % 16), .int .i64 ((p : Int) % 16), .bool true]) ∧ w' = w := by
  have h1 : decide ((p : Int) < 0) = false := decide_eq_false (by omega)
  have h2 : decide ((4096 : Int) ≤ (p : Int)) = false := decide_eq_false (by omega)
  have h3 : decide (4096 ≤ p) = false := decide_eq_false (by omega)
  go_enter Try.func38, Try.ntmps38
  go_wp2_with fail
  refine bodyPost_ret_by (v := .tuple #[.int .i64 ((p : Int) / 256), .int .i64 ((p : Int) / 16 % 16), .int .i64 ((p : Int) % 16), .bool true]) ?_ rfl ?_
  · simp only [results, Try.f38]; go_simp
  · exact ⟨rfl, rfl⟩

end Go.Proofs.Ytdhnfhhmacjajaa


/-
  graft.Fits: would the tables do for more pages?
-/
namespace Go.Proofs.Ytdhnfhhmacjajaa
open Go Go.RowKit Go.Maps Go.Am Go.Shelf
set_option linter.unusedVariables false
set_option linter.unusedSimpArgs false

def addI (L : List Int) (x : Int) : List Int := if L.contains x then L else L ++ [x]

/-- The tables' numbers, with those that more pages would want. -/
def fitM (F : LfF) : List Int → List Int := fun zs => zs.foldl (fun L p => if 0 ≤ p ∧ p < 4096 then addI L (p / 256) else L) (midsL F 256)

def fitE (F : LfF) : List Int → List Int := fun zs => zs.foldl (fun L p => if 0 ≤ p ∧ p < 4096 then addI L (p / 16) else L) (endsL F 256)

def fitN (F : LfF) (zs : List Int) : Nat := 1 + (fitM F zs).length + (fitE F zs).length

theorem fitM_snoc (F : LfF) (zs : List Int) (p : Int) : fitM F (zs ++ [p]) = if 0 ≤ p ∧ p < 4096 then addI (fitM F zs) (p / 256) else fitM F zs := by
  unfold fitM; rw [List.foldl_append]; rfl

theorem fitE_snoc (F : LfF) (zs : List Int) (p : Int) : fitE F (zs ++ [p]) = if 0 ≤ p ∧ p < 4096 then addI (fitE F zs) (p / 16) else fitE F zs := by
  unfold fitE; rw [List.foldl_append]; rfl

theorem addI_len (L : List Int) (x : Int) : (addI L x).length ≤ L.length + 1 := by
  unfold addI; split <;> simp

theorem foldl_len {f : List Int → Int → List Int} (hf : ∀ L p, (f L p).length ≤ L.length + 1) : ∀ (zs : List Int) (L : List Int), (zs.foldl f L).length ≤ L.length + zs.length
  | [], L => by simp
  | z :: zs, L => by
    have h1 := foldl_len hf zs (f L z)
    have h2 := hf L z
    simp only [List.foldl_cons, List.length_cons]
    omega

theorem fitM_len (F : LfF) (zs : List Int) : (fitM F zs).length ≤ 256 + zs.length := by
  have h1 := foldl_len (f := fun L p => if 0 ≤ p ∧ p < 4096 then addI L (p / 256) else L) (fun L p => by
    have := addI_len L (p / 256)
    show (if 0 ≤ p ∧ p < 4096 then addI L (p / 256) else L).length ≤ _
    split <;> omega) zs (midsL F 256)
  have h2 := midsL_len F 256
  show (zs.foldl (fun L p => if 0 ≤ p ∧ p < 4096 then addI L (p / 256) else L) (midsL F 256)).length ≤ _
  omega

theorem fitE_len (F : LfF) (zs : List Int) : (fitE F zs).length ≤ 256 + zs.length := by
  have h1 := foldl_len (f := fun L p => if 0 ≤ p ∧ p < 4096 then addI L (p / 16) else L) (fun L p => by
    have := addI_len L (p / 16)
    show (if 0 ≤ p ∧ p < 4096 then addI L (p / 16) else L).length ≤ _
    split <;> omega) zs (endsL F 256)
  have h2 := endsL_len F 256
  show (zs.foldl (fun L p => if 0 ≤ p ∧ p < 4096 then addI L (p / 16) else L) (endsL F 256)).length ≤ _
  omega

theorem addI_same {L : List Int} {x : Int} (h : L.contains x = true) : addI L x = L := if_pos h

theorem addI_new {L : List Int} {x : Int} (h : L.contains x = false) : addI L x = L ++ [x] := if_neg (by rw [h]; simp)

set_option maxRecDepth 100000 in
set_option maxHeartbeats 4000000 in
theorem pathOut (p : Int) (w : World) (hp : ¬ (0 ≤ p ∧ p < 4096)) : Calls Try.prog 38 #[.int .i64 p] w fun e w' => e = .returned (.tuple #[.int .i64 0, .int .i64 0, .int .i64 0, .bool false]) ∧ w' = w := by
  cases h1 : decide (p < 0) with
  | true =>
    clear hp
    go_enter Try.func38, Try.ntmps38
    go_wp2_with fail
    refine bodyPost_ret_by (v := .tuple #[.int .i64 0, .int .i64 0, .int .i64 0, .bool false]) ?_ rfl ⟨rfl, rfl⟩
    simp only [results, Try.f38]; go_simp
  | false =>
    have h2 : decide (4096 ≤ p) = true := decide_eq_true (by simp only [decide_eq_false_iff_not] at h1; omega)
    clear hp
    go_enter Try.func38, Try.ntmps38
    go_wp2_with fail
    refine bodyPost_ret_by (v := .tuple #[.int .i64 0, .int .i64 0, .int .i64 0, .bool false]) ?_ rfl ⟨rfl, rfl⟩
    simp only [results, Try.f38]; go_simp

theorem pathAny (p : Int) (w : World) (hp : 0 ≤ p ∧ p < 4096) : Calls Try.prog 38 #[.int .i64 p] w fun e w' => e = .returned (.tuple #[.int .i64 (p / 256), .int .i64 (p / 16 % 16), .int .i64 (p % 16), .bool true]) ∧ w' = w := by
  obtain ⟨n, rfl⟩ : ∃ n : Nat, p = n := ⟨p.toNat, by omega⟩
  exact pathIn n w (by omega)

set_option maxRecDepth 100000 in
set_option maxHeartbeats 16000000 in
theorem fitsG (A : GA) (X : List Nat) (k : Nat) (F : LfF) (v : Value) (zs : List Int) (w : World) (h : GrAt w A X k F) (hz : AllRow w v zs) (hl : zs.length ≤ 1000) :
    Calls Try.prog 19 #[.pointer (some ⟨A.t, 0, none⟩), v] w fun e w' => e = .returned (.bool (decide (fitN F zs ≤ A.n))) ∧ GrowBut w w' [] := by
  obtain ⟨s, c, rfl, hcs⟩ := hz
  have hF := h.ok
  have hroom := h.room
  obtain ⟨mem, tk, b, nh, nt, MI, EN, ow, hT, h1, h2, h3, h4, h5, h6, h7⟩ := h.tree
  obtain ⟨i0, hi, hz0, hz1, hz2⟩ := info_parts infoI
  have c3 := hT.c3
  have hP := plan_all b nh F w hT.have_ hF
  go_enter Try.func19, Try.ntmps19
  go_wp2_with (first
    | (go_at_call 37; refine hP.mono ?_; clear hP; rintro e w1 ⟨v2, v3, rfl, hrow2, hrow3, hap, hg1⟩)
    | fail)
  go_loopw [5, 6, 26] (fun v5 v6 v26 wr => ∃ i : Nat, v26 = .int .i64 i ∧ i ≤ zs.length ∧ wr.ownsRow w.heap.size 3 1 v5 (fitM F (zs.take i)).length ((fitM F (zs.take i)).map (Value.int .i64)) ∧ wr.ownsRow w.heap.size 3 1 v6 (fitE F (zs.take i)).length ((fitE F (zs.take i)).map (Value.int .i64)) ∧ ApartV v5 v6 ∧ GrowBut w wr []) (fun _ _ v26 wr => zs.length - natOf v26)
  case atStart => exact ⟨0, rfl, by omega, hrow2, hrow3, hap, hg1⟩
  case round =>
    obtain ⟨i, rfl, hi6, hrow2, hrow3, hap, hnx⟩ := hrel
    have hns := hnx.size
    by_cases hlt : i < zs.length
    · have hlt' : (i : Int) < (zs.length : Int) := by omega
      obtain ⟨gs, rfl, cx0⟩ := hcs i hlt
      have cx := hnx.cell cx0 (by simp)
      have hml := fitM_len F (zs.take i)
      have hel := fitE_len F (zs.take i)
      have htl : (zs.take i).length ≤ i := List.length_take_le _ _
      have em0 := fitM_snoc F (zs.take i) (zs.getD i 0)
      have ee0 := fitE_snoc F (zs.take i) (zs.getD i 0)
      rw [← take_snocG hlt] at em0 ee0
      generalize zs.getD i 0 = x at cx em0 ee0
      have hmeas : zs.length - natOf (.int .i64 ((i : Int) + 1)) < zs.length - natOf (.int .i64 (i : Int)) := by simp [natOf]; omega
      have hend : ∀ v2 v3 w', w'.ownsRow w.heap.size 3 1 v2 (fitM F (zs.take (i + 1))).length ((fitM F (zs.take (i + 1))).map (Value.int .i64)) → w'.ownsRow w.heap.size 3 1 v3 (fitE F (zs.take (i + 1))).length ((fitE F (zs.take (i + 1))).map (Value.int .i64)) → ApartV v2 v3 → GrowBut w w' [] →
          (∃ i_1 : Nat, Value.int .i64 ((i : Int) + 1) = .int .i64 i_1 ∧ i_1 ≤ zs.length ∧ w'.ownsRow w.heap.size 3 1 v2 (fitM F (zs.take i_1)).length ((fitM F (zs.take i_1)).map (Value.int .i64)) ∧ w'.ownsRow w.heap.size 3 1 v3 (fitE F (zs.take i_1)).length ((fitE F (zs.take i_1)).map (Value.int .i64)) ∧ ApartV v2 v3 ∧ GrowBut w w' []) ∧ zs.length - natOf (.int .i64 ((i : Int) + 1)) < zs.length - natOf (.int .i64 (i : Int)) :=
        fun v2 v3 w' h1 h2 h3 h4 => ⟨⟨i + 1, by simp, by omega, h1, h2, h3, h4⟩, hmeas⟩
      generalize fitM F (zs.take i) = LM at hrow2 hml em0
      generalize fitE F (zs.take i) = LE at hrow3 hel ee0
      have hlow2 : ∀ j, u5.ownBlock = some j → w.heap.size ≤ j := fun j hj => (hrow2.lt j hj).1
      have hlow3 : ∀ j, u6.ownBlock = some j → w.heap.size ≤ j := fun j hj => (hrow3.lt j hj).1
      have hgb : ∀ {a c : World} {o : Option Nat}, GrowBut w a [] → a.grownBy c o → (∀ j, o = some j → w.heap.size ≤ j) → GrowBut w c [] := fun {a c o} h1 h2 h3 => h1.from (GrowBut.of_rowG h2) (fun x hx => .inr (h3 x (by simpa using hx)))
      by_cases hx : 0 ≤ x ∧ x < 4096
      · rw [if_pos hx] at em0 ee0
        have hPa := pathAny x wr hx
        have hC1 := contains_row w.heap.size u5 LM (x / 256) wr (by omega) hrow2
        obtain ⟨hx0, hx1⟩ := hx
        cases hm : LM.contains (x / 256) with
        | true =>
          rw [addI_same hm] at em0
          rw [hm] at hC1
          have hC2 := contains_row w.heap.size u6 LE (x / 16) wr (by omega) hrow3
          cases he : LE.contains (x / 16) with
          | true =>
            rw [addI_same he] at ee0
            rw [he] at hC2
            clear hm he
            go_wp2_with (first
              | (go_at_call 38; refine hPa.mono ?_; rintro e w5 ⟨rfl, hww⟩; rw [hww]; clear hww w5)
              | (go_at_call 39; refine hC1.mono ?_; clear hC1; rintro e w5 ⟨rfl, hww⟩; rw [hww]; clear hww w5)
              | (go_at_call 39; refine hC2.mono ?_; rintro e w5 ⟨rfl, hww⟩; rw [hww]; clear hww w5)
              | go_in)
            exact hend _ _ _ (by rw [em0]; exact hrow2) (by rw [ee0]; exact hrow3) hap hnx
          | false =>
            rw [addI_new he] at ee0
            rw [he] at hC2
            clear hm he
            go_wp2_with (first
              | (go_at_call 38; refine hPa.mono ?_; rintro e w5 ⟨rfl, hww⟩; rw [hww]; clear hww w5)
              | (go_at_call 39; refine hC1.mono ?_; clear hC1; rintro e w5 ⟨rfl, hww⟩; rw [hww]; clear hww w5)
              | (go_at_call 39; refine hC2.mono ?_; rintro e w5 ⟨rfl, hww⟩; rw [hww]; clear hww w5)
              | (at_builtin; refine wpList_append_own_at _ rfl _ _ 23 rfl w.heap.size 3 i0 (.int .i64 0) 1 8 Try.underlying23 hi hz0 hz1 hz2 rfl (by decide) u6 _ _ rfl (hrow3.alloc _) ⟨wr.heap.size, 0, none⟩ 1 1 [.int .i64 (x / 16)] rfl rfl (cell_one_new _ _ _) (by simp [Value.oneCell']) (by unfold maxLen; omega) (by omega) (by have := hnx.size; simp at this ⊢; omega) ?_; intro v3' w8 hown3' hg8 hnil3 hat3)
              | go_in)
            exact hend _ _ _ (by rw [em0]; exact (hrow2.alloc (.cells #[.int .i64 (x / 16)] 3)).kept hg8 hap.symm.keeps) (by rw [ee0]; simpa using hown3') (hap.symm.grew (hrow2.alloc (.cells #[.int .i64 (x / 16)] 3)) hat3).symm
              (hgb (hnx.trans (.alloc _ _ _)) hg8 hlow3)
        | false =>
          rw [addI_new hm] at em0
          rw [hm] at hC1
          have hC2 := fun W (h : W.ownsRow w.heap.size 3 1 u6 LE.length (LE.map (Value.int .i64))) => contains_row w.heap.size u6 LE (x / 16) W (by omega) h
          cases he : LE.contains (x / 16) with
          | true =>
            rw [addI_same he] at ee0
            rw [he] at hC2
            clear hm he
            go_wp2_with (first
              | (go_at_call 38; refine hPa.mono ?_; rintro e w5 ⟨rfl, hww⟩; rw [hww]; clear hww w5)
              | (go_at_call 39; refine hC1.mono ?_; clear hC1; rintro e w5 ⟨rfl, hww⟩; rw [hww]; clear hww w5)
              | (at_builtin; refine wpList_append_own_at _ rfl _ _ 23 rfl w.heap.size 3 i0 (.int .i64 0) 1 8 Try.underlying23 hi hz0 hz1 hz2 rfl (by decide) u5 _ _ rfl (hrow2.alloc _) ⟨wr.heap.size, 0, none⟩ 1 1 [.int .i64 (x / 256)] rfl rfl (cell_one_new _ _ _) (by simp [Value.oneCell']) (by unfold maxLen; omega) (by omega) (by have := hnx.size; simp at this ⊢; omega) ?_; intro v2' w6 hown2' hg6 hnil2 hat2; have hrow36 := (hrow3.alloc (.cells #[.int .i64 (x / 256)] 3)).kept hg6 hap.keeps; have hap6 : ApartV v2' u6 := hap.grew (hrow3.alloc (.cells #[.int .i64 (x / 256)] 3)) hat2; have hC3 := hC2 _ hrow36)
              | (go_at_call 39; refine hC3.mono ?_; rintro e w5 ⟨rfl, hww⟩; rw [hww]; clear hww w5)
              | go_in)
            exact hend _ _ _ (by rw [em0]; simpa using hown2') (by rw [ee0]; exact hrow36) hap6 (hgb (hnx.trans (.alloc _ _ _)) hg6 hlow2)
          | false =>
            rw [addI_new he] at ee0
            rw [he] at hC2
            clear hm he
            go_wp2_with (first
              | (go_at_call 38; refine hPa.mono ?_; rintro e w5 ⟨rfl, hww⟩; rw [hww]; clear hww w5)
              | (go_at_call 39; refine hC1.mono ?_; clear hC1; rintro e w5 ⟨rfl, hww⟩; rw [hww]; clear hww w5)
              | (at_builtin; refine wpList_append_own_at _ rfl _ _ 23 rfl w.heap.size 3 i0 (.int .i64 0) 1 8 Try.underlying23 hi hz0 hz1 hz2 rfl (by decide) u5 _ _ rfl (hrow2.alloc _) ⟨wr.heap.size, 0, none⟩ 1 1 [.int .i64 (x / 256)] rfl rfl (cell_one_new _ _ _) (by simp [Value.oneCell']) (by unfold maxLen; omega) (by omega) (by have := hnx.size; simp at this ⊢; omega) ?_; intro v2' w6 hown2' hg6 hnil2 hat2; have hrow36 := (hrow3.alloc (.cells #[.int .i64 (x / 256)] 3)).kept hg6 hap.keeps; have hap6 : ApartV v2' u6 := hap.grew (hrow3.alloc (.cells #[.int .i64 (x / 256)] 3)) hat2; have hC3 := hC2 _ hrow36; have hG6 := hgb (hnx.trans (.alloc _ _ _)) hg6 hlow2)
              | (go_at_call 39; refine hC3.mono ?_; rintro e w5 ⟨rfl, hww⟩; rw [hww]; clear hww w5)
              | (at_builtin; have _t := hG6; refine wpList_append_own_at _ rfl _ _ 23 rfl w.heap.size 3 i0 (.int .i64 0) 1 8 Try.underlying23 hi hz0 hz1 hz2 rfl (by decide) u6 _ _ rfl (hrow36.alloc _) ⟨w6.heap.size, 0, none⟩ 1 1 [.int .i64 (x / 16)] rfl rfl (cell_one_new _ _ _) (by simp [Value.oneCell']) (by unfold maxLen; omega) (by omega) (by have := hG6.size; simp at this ⊢; omega) ?_; intro v3' w8 hown3' hg8 hnil3 hat3)
              | go_in)
            exact hend _ _ _ (by rw [em0]; simpa using (hown2'.alloc (.cells #[.int .i64 (x / 16)] 3)).kept hg8 hap6.symm.keeps) (by rw [ee0]; simpa using hown3') (hap6.symm.grew (hown2'.alloc (.cells #[.int .i64 (x / 16)] 3)) hat3).symm
              (hgb (hG6.trans (.alloc _ _ _)) hg8 hlow3)
      · rw [if_neg hx] at em0 ee0
        have hPo := pathOut x wr hx
        clear hx
        go_wp2_with (first
          | (go_at_call 38; refine hPo.mono ?_; rintro e w5 ⟨rfl, hww⟩; rw [hww]; clear hww w5)
          | go_in)
        exact hend _ _ _ (by rw [em0]; exact hrow2) (by rw [ee0]; exact hrow3) hap hnx
    · have hil : i = zs.length := by omega
      subst hil
      rw [List.take_length] at hrow2 hrow3
      obtain ⟨s5, d5, rfl⟩ := row_slice hrow2
      obtain ⟨s6, d6, rfl⟩ := row_slice hrow3
      have hT1 := (hT.keep0 hnx).keep0 (GrowBut.drew wr [])
      have k4 := hT1.c4
      have k5 := hT1.c5
      have k1 := hT1.st.c1
      have hdl4 : ∀ w5, GrowBut wr.drew w5 [] → (Builtin.len_ #[67] 3 #[.map (some A.bm)]).run Try.prog w5 = .ok (.int .i64 (midsL F 256).length) w5 := fun w5 hg => (hT1.mids.kept hg (by simp)).len (t := 67) (e := 3) Try.underlying67 (nodup_midsL F 256) (fun x => by rw [(tabI_val _ _).2]; exact (h1 x).symm) 3
      have hdl5 : ∀ w5, GrowBut wr.drew w5 [] → (Builtin.len_ #[67] 3 #[.map (some A.be)]).run Try.prog w5 = .ok (.int .i64 (endsL F 256).length) w5 := fun w5 hg => (hT1.ends.kept hg (by simp)).len (t := 67) (e := 3) Try.underlying67 (nodup_endsL F 256) (fun x => by rw [(tabI_val _ _).2]; exact (h2 x).symm) 3
      have hlen4 := hdl4 _ (.refl _ _)
      have hlen5 := hdl5 _ (.refl _ _)
      have hLf := stockLeft A.S A.Tk A.fro A.n tk wr.drew hT1.st.stock
      rw [h3.cnt] at hLf
      have hml := fitM_len F zs
      have hel := fitE_len F zs
      have hl3 := midsL_len F 256
      have hl4 := endsL_len F 256
      have hfn : fitN F zs = 1 + (fitM F zs).length + (fitE F zs).length := rfl
      have htn : tabsN F = 1 + (midsL F 256).length + (endsL F 256).length := rfl
      have hsm := hT.st.stock.small
      generalize (fitM F zs).length = lm' at hml hfn ⊢
      generalize (fitE F zs).length = le' at hel hfn ⊢
      generalize (midsL F 256).length = lm at hl3 htn hlen4 hdl4
      generalize (endsL F 256).length = le at hl4 htn hlen5 hdl5
      have hx1 := IntWalk.i64_in ((lm' : Int) + (le' : Int)) (by omega)
      have hx2 := IntWalk.i64_in ((lm : Int) + (le : Int)) (by omega)
      have hx3 := IntWalk.i64_in ((lm : Int) + (le : Int) + ((A.n : Int) - (tabsN F : Int))) (by omega)
      have hx4 : decide ((lm' : Int) + (le' : Int) ≤ (lm : Int) + (le : Int) + ((A.n : Int) - (tabsN F : Int))) = decide (fitN F zs ≤ A.n) := decide_eq_decide.2 (by omega)
      obtain ⟨bb, hbb⟩ : ∃ bb, HideG (bb = decide (fitN F zs ≤ A.n)) := ⟨_, rfl⟩
      rw [← hbb.out] at hx4
      generalize (A.n : Int) - (tabsN F : Int) = nn at hx3 hx4 hLf
      clear h1 h2 h3 h4 h hT hfn htn hcs hrow2 hrow3 hap
      go_upto_region 15 with fail
      go_region_held3 (fun w' => w'.cell? ⟨A.t, 4, none⟩ = some (.map (some A.bm)) ∧ w'.cell? ⟨A.t, 5, none⟩ = some (.map (some A.be)) ∧ w'.cell? ⟨A.t, 1, none⟩ = some (.pointer (some ⟨A.S, 0, none⟩)) ∧
          (Builtin.len_ #[67] 3 #[.map (some A.bm)]).run Try.prog w' = .ok (.int .i64 lm) w' ∧ (Builtin.len_ #[67] 3 #[.map (some A.be)]).run Try.prog w' = .ok (.int .i64 le) w') (first | go_keep | (exact ⟨d4, d5', d1, dm, de⟩))
        (first
          | (go_at_call 24; refine hLf.mono ?_; rintro e w5 ⟨rfl, hg5⟩; have d4 := hg5.cell k4 (by simp); have d5' := hg5.cell k5 (by simp); have d1 := hg5.cell k1 (by simp); have dm := hdl4 w5 hg5; have de := hdl5 w5 hg5)
          | fail)
      go_wp2_with fail
      refine bodyPost_ret_by (v := .bool bb) ?_ rfl ⟨by rw [hbb.out], (hnx.trans (GrowBut.drew wr [])).trans hg5⟩
      simp only [results, Try.f19]; go_simp

end Go.Proofs.Ytdhnfhhmacjajaa


/-
  What code and calls come to, from an abstract state: some of many abstract ends. Rules, one for each kind of code.
-/
namespace Go.Am
open Go Go.RowKit
set_option linter.unusedVariables false
set_option linter.unusedSimpArgs false

/-- No name is given from the state's own ones on, below `M`. -/
def Room (M : Nat) (ρ : Ren) (s : AState) : Prop := s.next ≤ M ∧ Fresh ρ s.next M

theorem Room.fresh {M : Nat} {ρ : Ren} {s : AState} (h : Room M ρ s) {m : Nat} (hm : m ≤ M) : Fresh ρ s.next m := h.2.mono (Nat.le_refl _) hm

abbrev CK := AExit → AAct → AState → Prop
abbrev VK := AVal → AState → Prop

section
variable {σ : Syms} {N0 : Nat} {w0 : World} {P : Program} {M : Nat}

theorem Room.post {ρ ρ' : Ren} {s s' : AState} {w w' : World} (h : Room M ρ s) (k : Post σ N0 w0 ρ s w ρ' s' w') (hm : s'.next ≤ M) : Room M ρ' s' := ⟨hm, k.fresh h.2⟩

def OutK (M : Nat) (σ : Syms) (N0 : Nat) (w0 : World) (ρ : Ren) (s : AState) (w : World) (K : CK) : Exit → Act → World → Prop :=
  fun e2 act' w' => ∃ e a' s', K e a' s' ∧ s'.next ≤ M ∧ Out σ N0 w0 ρ s w e a' s' e2 act' w'

theorem OutK.of {ρ ρ1 : Ren} {s s1 : AState} {w w1 : World} {K : CK} (h : Post σ N0 w0 ρ s w ρ1 s1 w1) (hc : Room M ρ s) (h1 : s1.next ≤ M) {e2 : Exit} {act' : Act} {w' : World} (hq : OutK M σ N0 w0 ρ1 s1 w1 K e2 act' w') : OutK M σ N0 w0 ρ s w K e2 act' w' := by
  obtain ⟨e, a', s', hk, hm, ho⟩ := hq
  exact ⟨e, a', s', hk, hm, ho.of h (hc.fresh h1)⟩

theorem OutK.mono {ρ : Ren} {s : AState} {w : World} {K K' : CK} (hk : ∀ e a s, K e a s → K' e a s) {e2 : Exit} {act' : Act} {w' : World} (hq : OutK M σ N0 w0 ρ s w K e2 act' w') : OutK M σ N0 w0 ρ s w K' e2 act' w' := by
  obtain ⟨e, a', s', h, ho⟩ := hq
  exact ⟨e, a', s', hk _ _ _ h, ho⟩

/-- What code comes to. -/
def CodeTo (M : Nat) (P : Program) (σ : Syms) (N0 : Nat) (w0 : World) (c : Code) (a : AAct) (s : AState) (K : CK) : Prop :=
  ∀ ρ w act, ARel σ ρ a act → WRel σ N0 w0 ρ s w → Room M ρ s → c.wp P (OutK M σ N0 w0 ρ s w K) act w

/-- What a call comes to. -/
def CallTo (M : Nat) (P : Program) (σ : Syms) (N0 : Nat) (w0 : World) (f : FuncId) (args : List AVal) (s : AState) (K : VK) : Prop :=
  ∀ ρ w (us : Array Value), WRel σ N0 w0 ρ s w → Room M ρ s → VRels σ ρ args us.toList →
    Calls P f us w (fun e w' => ∃ v s', K v s' ∧ s'.next ≤ M ∧ ∃ u ρ', e = .returned u ∧ VRel σ ρ' v u ∧ Post σ N0 w0 ρ s w ρ' s' w')

/-- What operations come to, one behind the other. -/
def OpsTo (M : Nat) (P : Program) (σ : Syms) (N0 : Nat) (w0 : World) (ops : Array Oper) (l : List Oper) (a : AAct) (s : AState) (K : AAct → AState → Prop) : Prop :=
  ∀ ρ w act (Q : Exit → Act → World → Prop), ARel σ ρ a act → WRel σ N0 w0 ρ s w → Room M ρ s → (∀ act' w' a' s' ρ', K a' s' → s'.next ≤ M → ARel σ ρ' a' act' → Post σ N0 w0 ρ s w ρ' s' w' → Q .normal act' w') → wpList P ops Q l act w

/-- What comes of code inside a scope. -/
def InScopeTo (M : Nat) (P : Program) (σ : Syms) (N0 : Nat) (w0 : World) (body c : Code) (a : AAct) (s : AState) (K : CK) : Prop :=
  ∀ ρ w act, ARel σ ρ a act → WRel σ N0 w0 ρ s w → Room M ρ s → ∀ b k cs, Comes' P (lone (b.at act (.code c :: .inScope body :: k)) cs w) b k cs (OutK M σ N0 w0 ρ s w K)

theorem CodeTo.mono {c : Code} {a : AAct} {s : AState} {K K' : CK} (h : CodeTo M P σ N0 w0 c a s K) (hk : ∀ e a s, K e a s → K' e a s) : CodeTo M P σ N0 w0 c a s K' :=
  fun ρ w act ha hw hc => wp_mono (h ρ w act ha hw hc) fun _ _ _ hq => hq.mono hk

theorem CallTo.mono {f : FuncId} {args : List AVal} {s : AState} {K K' : VK} (h : CallTo M P σ N0 w0 f args s K) (hk : ∀ v s, K v s → K' v s) : CallTo M P σ N0 w0 f args s K' :=
  fun ρ w us hw hc hv => (h ρ w us hw hc hv).mono fun e w' ⟨v, s', h1, h2⟩ => ⟨v, s', hk _ _ h1, h2⟩

theorem CodeTo.of_run {rec : Rec} (hrec : RunOk P σ N0 w0 rec) {c : Code} {a a' : AAct} {s s' : AState} {e : AExit} {K : CK} (h : rec (.code c a) s = .ok (.out e a', s')) (hm : s'.next ≤ M) (hk : K e a' s') : CodeTo M P σ N0 w0 c a s K :=
  fun ρ w act ha hw hc => wp_mono (hrec.code _ _ _ _ _ _ h ρ w act ha hw (hc.fresh hm)) fun _ _ _ hq => ⟨e, a', s', hk, hm, hq⟩

theorem CallTo.of_run {rec : Rec} (hrec : RunOk P σ N0 w0 rec) {f : FuncId} {args : List AVal} {s s' : AState} {v : AVal} {K : VK} (hf : plainFn P f = true) (h : rec (.call f args) s = .ok (.val v, s')) (hm : s'.next ≤ M) (hk : K v s') : CallTo M P σ N0 w0 f args s K := by
  intro ρ w us hw hc hv
  obtain ⟨v', e1, hcall⟩ := hrec.call _ _ _ _ _ h hf ρ w us hw (hc.fresh hm) hv
  cases e1
  exact hcall.mono fun e w' hq => ⟨v, s', hk, hm, hq⟩

theorem CallTo.of_prim {f : FuncId} {p : List AVal → AState → R (AVal × AState)} (hp : PrimOk P σ N0 w0 f p) {args : List AVal} {s s' : AState} {v : AVal} {K : VK} (h : p args s = .ok (v, s')) (hm : s'.next ≤ M) (hk : K v s') : CallTo M P σ N0 w0 f args s K :=
  fun ρ w us hw hc hv => (hp.sound _ _ _ _ h ρ w us hw (hc.fresh hm) hv).mono fun e w' hq => ⟨v, s', hk, hm, hq⟩

theorem OutK.one {ρ : Ren} {s : AState} {w : World} {K : CK} {e : AExit} {a : AAct} {act : Act} (hk : K e a s) (ha : ARel σ ρ a act) (hw : WRel σ N0 w0 ρ s w) (hc : Room M ρ s) : OutK M σ N0 w0 ρ s w K e.to act w :=
  ⟨e, a, s, hk, hc.1, rfl, ρ, ha, Post.refl hw⟩

theorem CodeTo.skip {a : AAct} {s : AState} {K : CK} (h : K .normal a s) : CodeTo M P σ N0 w0 .skip a s K := fun ρ w act ha hw hc => wp_skip (OutK.one h ha hw hc)
theorem CodeTo.label {l : Nat} {a : AAct} {s : AState} {K : CK} (h : K .normal a s) : CodeTo M P σ N0 w0 (.label l) a s K := fun ρ w act ha hw hc => wp_label (OutK.one h ha hw hc)
theorem CodeTo.exit {id : Nat} {a : AAct} {s : AState} {K : CK} (h : K (.exit id) a s) : CodeTo M P σ N0 w0 (.exit id) a s K := fun ρ w act ha hw hc => wp_exit (OutK.one h ha hw hc)
theorem CodeTo.goto {l : Nat} {a : AAct} {s : AState} {K : CK} (h : K (.goto l) a s) : CodeTo M P σ N0 w0 (.goto l) a s K := fun ρ w act ha hw hc => wp_goto (OutK.one h ha hw hc)
theorem CodeTo.ret {a : AAct} {s : AState} {K : CK} (h : K .ret a s) : CodeTo M P σ N0 w0 .ret a s K := fun ρ w act ha hw hc => wp_ret (OutK.one h ha hw hc)

/-- What follows code in a row: the second part, where the first one ends as it should. -/
def Then (M : Nat) (P : Program) (σ : Syms) (N0 : Nat) (w0 : World) (y : Code) (K : CK) : CK
  | .normal, a, s => CodeTo M P σ N0 w0 y a s K
  | e, a, s => K e a s

theorem CodeTo.seq {x y : Code} {a : AAct} {s : AState} {K : CK} (h : CodeTo M P σ N0 w0 x a s (Then M P σ N0 w0 y K)) : CodeTo M P σ N0 w0 (.seq x y) a s K := by
  intro ρ w act ha hw hc
  refine wp_seq (wp_mono (h ρ w act ha hw hc) fun e2 act1 w1 hq => ?_)
  obtain ⟨e, a1, s1, hk, hm, rfl, ρ1, ha1, hP⟩ := hq
  cases e with
  | normal => exact wp_mono (hk ρ1 w1 act1 ha1 hP.wrel (hc.post hP hm)) fun _ _ _ hq => hq.of hP hc hm
  | exit id => exact ⟨_, a1, s1, hk, hm, rfl, ρ1, ha1, hP⟩
  | goto l => exact ⟨_, a1, s1, hk, hm, rfl, ρ1, ha1, hP⟩
  | ret => exact ⟨_, a1, s1, hk, hm, rfl, ρ1, ha1, hP⟩

theorem CodeTo.cond {c : Operand} {x y : Code} {a : AAct} {s : AState} {K : CK} {b : Bool} (hb : aev a c = .ok (.lit (.bool b))) (h : CodeTo M P σ N0 w0 (bif b then x else y) a s K) : CodeTo M P σ N0 w0 (.cond c x y) a s K := by
  intro ρ w act ha hw hc
  have hcv : act.eval c = .bool b := asBoolLit_ok (a := .lit (.bool b)) rfl (aev_of c (fun t v _ hv => ha.get t v hv) _ hb)
  refine wp_cond hcv ?_
  cases b with
  | true => exact h ρ w act ha hw hc
  | false => exact h ρ w act ha hw hc

/-- Behind a block. -/
def OutOf (id : Nat) (K : CK) : CK
  | .exit id', a, s => K (bif Nat.beq id' id then .normal else .exit id') a s
  | e, a, s => K e a s

theorem CodeTo.block {id : Nat} {x : Code} {a : AAct} {s : AState} {K : CK} (h : CodeTo M P σ N0 w0 x a s (OutOf id K)) : CodeTo M P σ N0 w0 (.block id x) a s K := by
  intro ρ w act ha hw hc
  refine wp_block (wp_mono (h ρ w act ha hw hc) fun e2 act1 w1 hq => ?_)
  obtain ⟨e, a1, s1, hk, hm, rfl, ρ1, ha1, hP⟩ := hq
  cases e with
  | exit id' =>
    by_cases hid : id' = id
    · subst hid
      have : Nat.beq id' id' = true := Nat.beq_refl _
      simp only [AExit.to, Exit.inBlock, if_true]
      simp only [OutOf, this, cond_true] at hk
      exact ⟨_, a1, s1, hk, hm, rfl, ρ1, ha1, hP⟩
    · have : Nat.beq id' id = false := by
        cases hq : Nat.beq id' id with
        | false => rfl
        | true => exact absurd (Nat.eq_of_beq_eq_true hq) hid
      simp only [AExit.to, Exit.inBlock, hid, if_false]
      simp only [OutOf, this, cond_false] at hk
      exact ⟨_, a1, s1, hk, hm, rfl, ρ1, ha1, hP⟩
  | normal => exact ⟨_, a1, s1, hk, hm, rfl, ρ1, ha1, hP⟩
  | goto l => exact ⟨_, a1, s1, hk, hm, rfl, ρ1, ha1, hP⟩
  | ret => exact ⟨_, a1, s1, hk, hm, rfl, ρ1, ha1, hP⟩

/-- Behind a round. -/
def Round (J : AAct → AState → Prop) (K : CK) : CK
  | .normal, a, s => J a s
  | e, a, s => K e a s

theorem CodeTo.loop {x : Code} {J : Nat → AAct → AState → Prop} {K : CK} (hb : ∀ n a s, J n a s → CodeTo M P σ N0 w0 x a s (Round (fun a s => ∃ m, m < n ∧ J m a s) K)) :
    ∀ n a s, J n a s → CodeTo M P σ N0 w0 (.loop x) a s K := by
  have key : ∀ n a s, J n a s → ∀ ρ w act, ARel σ ρ a act → WRel σ N0 w0 ρ s w → Room M ρ s → ∀ b k cs, Comes' P (lone (b.at act (.code x :: .inLoop x :: k)) cs w) b k cs (OutK M σ N0 w0 ρ s w K) := by
    intro n
    induction n using Nat.strongRecOn with
    | _ n ih =>
      intro a s hJ ρ w act ha hw hc b k cs
      obtain ⟨e2, act1, w1, ⟨e, a1, s1, hk, hm, hq, ρ1, ha1, hP⟩, harr⟩ := hb n a s hJ ρ w act ha hw hc b (.inLoop x :: k) cs
      cases e with
      | normal =>
        subst hq
        obtain ⟨m, hmn, hJ1⟩ := hk
        obtain ⟨e3, act2, w2, hq2, harr2⟩ := ih m hmn a1 s1 hJ1 ρ1 w1 act1 ha1 hP.wrel (hc.post hP hm) b k cs
        exact ⟨e3, act2, w2, hq2.of hP hc hm, .of_steps (Steps.trans harr (.one step_inLoop)) harr2⟩
      | exit id => subst hq; exact ⟨_, act1, w1, ⟨_, a1, s1, hk, hm, rfl, ρ1, ha1, hP⟩, .pass (x := .inLoop x) rfl (fun _ _ => .inl (by simp [AExit.to])) harr⟩
      | goto l => subst hq; exact ⟨_, act1, w1, ⟨_, a1, s1, hk, hm, rfl, ρ1, ha1, hP⟩, .pass (x := .inLoop x) rfl (fun _ _ => .inl (by simp [AExit.to])) harr⟩
      | ret => subst hq; exact ⟨_, act1, w1, ⟨_, a1, s1, hk, hm, rfl, ρ1, ha1, hP⟩, .pass (x := .inLoop x) rfl (fun _ _ => .inl (by simp [AExit.to])) harr⟩
  intro n a s hJ ρ w act ha hw hc b k cs
  obtain ⟨e2, act', w', hq, harr⟩ := key n a s hJ ρ w act ha hw hc b k cs
  exact ⟨e2, act', w', hq, .of_steps (.one step_loop) harr⟩

/-- Behind a part of a scope. -/
def Scoped (M : Nat) (P : Program) (σ : Syms) (N0 : Nat) (w0 : World) (body : Code) (K : CK) : CK
  | .goto l, a, s => match findLabel body l with
    | some rest => InScopeTo M P σ N0 w0 body rest a s K
    | none => K (.goto l) a s
  | e, a, s => K e a s

theorem InScopeTo.of {body c : Code} {a : AAct} {s : AState} {K : CK} (h : CodeTo M P σ N0 w0 c a s (Scoped M P σ N0 w0 body K)) : InScopeTo M P σ N0 w0 body c a s K := by
  intro ρ w act ha hw hc b k cs
  obtain ⟨e2, act1, w1, ⟨e, a1, s1, hk, hm, hq, ρ1, ha1, hP⟩, harr⟩ := h ρ w act ha hw hc b (.inScope body :: k) cs
  cases e with
  | normal => subst hq; exact ⟨.normal, act1, w1, ⟨_, a1, s1, hk, hm, rfl, ρ1, ha1, hP⟩, Steps.trans harr (.one step_inScope)⟩
  | exit id => subst hq; exact ⟨.exit id, act1, w1, ⟨_, a1, s1, hk, hm, rfl, ρ1, ha1, hP⟩, fun k' hk => harr k' (by simp [exitTo, hk])⟩
  | ret => subst hq; exact ⟨.ret, act1, w1, ⟨_, a1, s1, hk, hm, rfl, ρ1, ha1, hP⟩, harr⟩
  | goto l =>
    subst hq
    simp only [Scoped] at hk
    split at hk
    · rename_i rest hl
      obtain ⟨e3, act2, w2, hq2, harr2⟩ := hk ρ1 w1 act1 ha1 hP.wrel (hc.post hP hm) b k cs
      exact ⟨e3, act2, w2, hq2.of hP hc hm, .of_steps (harr _ (by simp [gotoIn, hl])) harr2⟩
    · rename_i hl
      exact ⟨.goto l, act1, w1, ⟨_, a1, s1, hk, hm, rfl, ρ1, ha1, hP⟩, fun k' hk => harr k' (by simp [gotoIn, hl, hk])⟩

theorem CodeTo.scope {x : Code} {a : AAct} {s : AState} {K : CK} (h : InScopeTo M P σ N0 w0 x x a s K) : CodeTo M P σ N0 w0 (.scope x) a s K := by
  intro ρ w act ha hw hc b k cs
  obtain ⟨e2, act', w', hq, harr⟩ := h ρ w act ha hw hc b k cs
  exact ⟨e2, act', w', hq, .of_steps (.one step_scope) harr⟩

theorem CodeTo.region {id : Nat} {ops : Array Oper} {a : AAct} {s : AState} {K : CK} (h : OpsTo M P σ N0 w0 ops ops.toList a s (K .normal)) : CodeTo M P σ N0 w0 (.region id ops false) a s K :=
  fun ρ w act ha hw hc => wp_region_list (h ρ w act _ ha hw hc fun act' w' a' s' ρ' hk hm h1 h2 => ⟨.normal, a', s', hk, hm, rfl, ρ', h1, h2⟩)

/-! ### Operations -/
theorem OpsTo.nil {ops : Array Oper} {a : AAct} {s : AState} {K : AAct → AState → Prop} (h : K a s) : OpsTo M P σ N0 w0 ops [] a s K :=
  fun ρ w act Q ha hw hc hQ => hQ act w a s ρ h hc.1 ha (Post.refl hw)

theorem OpsTo.mono {ops : Array Oper} {l : List Oper} {a : AAct} {s : AState} {K K' : AAct → AState → Prop} (h : OpsTo M P σ N0 w0 ops l a s K) (hk : ∀ a s, K a s → K' a s) : OpsTo M P σ N0 w0 ops l a s K' :=
  fun ρ w act Q ha hw hc hQ => h ρ w act Q ha hw hc fun act' w' a' s' ρ' h1 hm h2 h3 => hQ act' w' a' s' ρ' (hk _ _ h1) hm h2 h3

theorem OpsTo.behind {ops : Array Oper} {l : List Oper} {ρ ρ1 : Ren} {s s1 : AState} {w w1 : World} {a1 : AAct} {act1 : Act} {K : AAct → AState → Prop} {Q : Exit → Act → World → Prop} (h : OpsTo M P σ N0 w0 ops l a1 s1 K)
    (ha : ARel σ ρ1 a1 act1) (hP : Post σ N0 w0 ρ s w ρ1 s1 w1) (hc : Room M ρ s) (hm : s1.next ≤ M) (hQ : ∀ act' w' a' s' ρ', K a' s' → s'.next ≤ M → ARel σ ρ' a' act' → Post σ N0 w0 ρ s w ρ' s' w' → Q .normal act' w') : wpList P ops Q l act1 w1 :=
  h ρ1 w1 act1 Q ha hP.wrel (hc.post hP hm) fun act' w' a' s' ρ' h1 hm2 h2 h3 => hQ act' w' a' s' ρ' h1 hm2 h2 (hP.trans (hc.fresh hm) h3)

/-- An operation that the machine runs. -/
theorem OpsTo.step {rec : Rec} (hrec : RunOk P σ N0 w0 rec) {ops : Array Oper} {o : Oper} {l : List Oper} {a a1 : AAct} {s s1 : AState} {K : AAct → AState → Prop} (h1 : stepOp P rec ops.toList o a s = .ok (a1, s1)) (hm : s1.next ≤ M)
    (h : OpsTo M P σ N0 w0 ops l a1 s1 K) : OpsTo M P σ N0 w0 ops (o :: l) a s K := by
  intro ρ w act Q ha hw hc hQ
  unfold stepOp at h1
  replace h1 := R.bind_ok' h1
  obtain ⟨b, hb, h1⟩ := h1
  have hwant : Region.wanted o (yielded ops act.tmps) = b := wantedA_ok hb fun t v _ hv => ha.get t v hv
  show (if Region.wanted o (yielded ops act.tmps) then _ else _)
  rw [hwant]
  cases b with
  | true =>
    rw [cond_true] at h1
    replace h1 := R.bind_ok' h1
    obtain ⟨⟨v, s2⟩, hx, h1⟩ := h1
    replace h1 := R.bind_ok' h1
    obtain ⟨a2, hp, h1⟩ := h1
    cases h1
    simp only [if_true]
    refine .inl (exec_sound hrec.toRec (r := (v, s2)) hw (hc.fresh hm) (fun x _ => aev_of x fun t v _ hv => ha.get t v hv) hx fun u w' ρ' hv hP => ?_)
    exact h.behind (ha.put hP.ext hv hp) hP hc hm hQ
  | false =>
    rw [cond_false] at h1
    replace h1 := R.bind_ok' h1
    obtain ⟨a2, hp, h1⟩ := h1
    cases h1
    simp only [Bool.false_eq_true, if_false]
    exact h.behind (ha.put (Ext.refl _) VRel.undef hp) (Post.refl hw) hc hc.1 hQ

/-- A call of a function. -/
theorem OpsTo.call {ops : Array Oper} {o : Oper} {l : List Oper} {a : AAct} {s s1 : AState} {f : FuncId} {args : List AVal} {K : AAct → AState → Prop} (hg : wantedA ops.toList a o = .ok true) (h1 : aop P (aev a) o s = .ok (.enter f args, s1)) (hm : s1.next ≤ M)
    (h : CallTo M P σ N0 w0 f args s fun v s2 => ∃ a2, a.put o.dst v = .ok a2 ∧ OpsTo M P σ N0 w0 ops l a2 s2 K) : OpsTo M P σ N0 w0 ops (o :: l) a s K := by
  intro ρ w act Q ha hw hc hQ
  have hwant : Region.wanted o (yielded ops act.tmps) = true := wantedA_ok hg fun t v _ hv => ha.get t v hv
  show (if Region.wanted o (yielded ops act.tmps) then _ else _)
  rw [hwant]
  simp only [if_true]
  left
  unfold Oper.wp
  rcases aop_sound hw (hc.fresh hm) (fun x _ => aev_of x fun t v _ hv => ha.get t v hv) h1 (by simp) with ⟨v', e1, _⟩ | ⟨f', args', us, e1, e2, hp, hv, hr⟩
  · cases e1
  · cases e1
    rw [hr, Oper.upon_enter]
    refine (h ρ w us hw hc hv).mono fun e w' ⟨v, s2, ⟨a2, hp2, hk⟩, hm2, u, ρ', he, h3, h4⟩ => ?_
    subst he
    exact hk.behind (ha.put h4.ext h3 hp2) h4 hc hm2 hQ

/-! ### The next one of a ranged map -/
/-- What comes next of a ranged map: whichever is left. -/
theorem OpsTo.next {ops : Array Oper} {o : Oper} {it : Operand} {l : List Oper} {a : AAct} {s : AState} {r m since last c : Nat} {seen : List Nat} {es : List AEntry} {K : AAct → AState → Prop} (hg : wantedA ops.toList a o = .ok true) (ho : o.op = .next it false)
    (hit : aev a it = .ok (.ptr r 0)) (hr : s.heap.get r = some (.iter (some m) since seen last)) (hm : s.heap.get m = some (.map es c)) (hold : es.all (fun e => decide (e.born < since)) = true) (hsl : since ≤ last)
    (hdone : leftA es seen = [] → ∃ a1, a.put o.dst (.tup [.lit (.bool false)]) = .ok a1 ∧ OpsTo M P σ N0 w0 ops l a1 s K)
    (hmore : ∀ e ∈ leftA es seen, vOne e.key = true ∧ ∃ s1 a1, s.write r (.iter (some m) since (seen ++ [e.born]) c) = .ok s1 ∧ a.put o.dst (.tup [.lit (.bool true), .lit e.key, e.val]) = .ok a1 ∧ OpsTo M P σ N0 w0 ops l a1 s1 K) :
    OpsTo M P σ N0 w0 ops (o :: l) a s K := by
  intro ρ w act Q ha hw hc hQ
  have hwant : Region.wanted o (yielded ops act.tmps) = true := wantedA_ok hg fun t v _ hv => ha.get t v hv
  show (if Region.wanted o (yielded ops act.tmps) then _ else _)
  rw [hwant]
  simp only [if_true]
  left
  obtain ⟨L, hL, hp⟩ := aev_of (σ := σ) (ρ := ρ) it (fun t v _ hv => ha.get t v hv) _ hit
  obtain ⟨hi0, m', hi1, hi2⟩ := hw.heap _ _ hr L hL
  cases m' with
  | none => exact hi2.elim
  | some bm =>
    obtain ⟨M1, hM, rfl⟩ := hi2
    obtain ⟨ms, hm1, hm2⟩ := hw.heap _ _ hm M1 hM
    have hleft := ERels.left (σ := σ) (ρ := ρ) seen hm2
    have hlen : (leftOf ms seen.toArray).toList = ms.toList.filter fun e => !seen.toArray.contains e.born := by unfold leftOf; rw [Array.toList_filter]
    have hold' : ∀ x ∈ ms.toList, x.born < since := fun x hx => by
      obtain ⟨e, he, _, h2, _⟩ := hm2.mem x hx
      rw [h2]
      simpa using List.all_eq_true.1 hold e he
    unfold Oper.wp
    have hex : ∀ (u : Value) (w' : World), (Instr.next (.pointer (some ⟨L.blk, 0, none⟩)) false o.type).run P w = .ok u w' → (execOp act.eval o).run P w = .ok (.value u) w' := fun u w' h => by
      unfold execOp
      rw [ho]
      show Sem.run P (do pure (Next.value (← Instr.next (act.eval it) false o.type))) w = _
      rw [hp, hi0, Nat.add_zero, Sem.run_bind, h]
      rfl
    rcases run_next_at (P := P) w o.type L.blk M1.blk since last seen.toArray ms c hi1 hm1 hold' hsl with ⟨h0, hrun⟩ | ⟨e, he, w1, hw1, hrun⟩
    · rw [hex _ _ hrun, Oper.upon_value]
      have : leftA es seen = [] := by
        have h1 := hleft.length
        rw [← hlen, Array.length_toList, h0] at h1
        exact List.length_eq_zero_iff.1 h1.symm
      obtain ⟨a1, hp1, hk⟩ := hdone this
      exact hk.behind (ha.put (Ext.refl _) (v := .tup [.lit (.bool false)]) (u := .tuple #[.bool false]) ⟨#[.bool false], rfl, .bool false, [], rfl, ⟨rfl, rfl⟩, rfl⟩ hp1) (Post.refl hw) hc hc.1 hQ
    · rw [hex _ _ hrun, Oper.upon_value]
      rw [hlen] at he
      obtain ⟨e', he', k1, k2, k3⟩ := hleft.mem e he
      obtain ⟨hk1, s1, a1, hs1, hp1, hk⟩ := hmore e' he'
      have hro : s.ro ≤ r := (write_ok' hs1).1
      have hN := (hw.rng r L hL).2.1 hro
      have hlt := (hw.rng r L hL).1
      have e1 : w1.heap = w.heap := by rcases hw1 with rfl | rfl <;> rfl
      have hbl : Below N0 w (ChangeMaps.setBlock w1 L.blk (.mapIter (some M1.blk) since (seen.toArray.push e.born) c)) := by
        have hb1 : Below N0 w w1 := by rcases hw1 with rfl | rfl; exact Below.refl _ _; exact (Below.refl _ _).drew
        refine ⟨hb1.os, hb1.tape, hb1.output, by simp [ChangeMaps.setBlock, e1], fun k hk => ?_⟩
        simp only [ChangeMaps.setBlock, e1]
        rw [Array.getElem?_setIfInBounds, if_neg (by omega)]
      have hP := Post.write hw hs1 (by rw [hr]; simp) hL hbl (by simp [ChangeMaps.setBlock, e1]) (fun k hk => by
        simp only [ChangeMaps.setBlock, e1]
        rw [Array.getElem?_setIfInBounds, if_neg (fun h => hk h.symm)]) (show ORel σ ρ L true _ (.iter (some m) since (seen ++ [e'.born]) c) from
        ⟨hi0, some M1.blk, by simp [ChangeMaps.setBlock, e1, hlt, k2], M1, hM, rfl⟩)
      refine hk.behind (ha.put (Ext.refl _) (v := .tup [.lit (.bool true), .lit e'.key, e'.val]) (u := .tuple #[.bool true, e.key, e.val]) ⟨#[.bool true, e.key, e.val], rfl, .bool true, [e.key, e.val], rfl, ⟨rfl, rfl⟩, e.key, [e.val], rfl, ⟨k1, hk1⟩, e.val, [], rfl, k3, rfl⟩ hp1) hP hc (by rw [(write_ok' hs1).2.1]; exact hc.1) hQ

/-! ### Calls -/
theorem CallTo.body {f : FuncId} {args : List AVal} {s : AState} {K : VK} {fn : Func} {body : Code} {t : Tr AVal} (hfn : P.funcs[f]? = some fn) (hb : fn.body = some body) (hn : Nat.ble args.length fn.ntmps = true ∧ Nat.ble fn.ntmps lim = true)
    (ht : ∀ j, t.get j = if 0 ≤ j ∧ j < 0 + args.length then args[j - 0]? else (Tr.leaf : Tr AVal).get j)
    (h : CodeTo M P σ N0 w0 body ⟨t, fn.ntmps⟩ s fun e a s' => (e = .normal ∨ e = .ret) ∧ ∃ vs, resA P a s' fn.results.toList = .ok vs ∧ K (retA vs) s') : CallTo M P σ N0 w0 f args s K := by
  intro ρ w us hw hc hv
  have hn1 := Nat.le_of_ble_eq_true hn.1
  have hn2 := Nat.le_of_ble_eq_true hn.2
  have ha := ARel.init (n := fn.ntmps) hv hn1 ht
  refine calls_of_wp hfn hb ?_
  refine wp_mono (h ρ w _ ha hw hc) fun e2 act' w' ⟨e, a', s', ⟨he, vs, hr, hk⟩, hm, h8, ρ', h9, h10⟩ => ?_
  obtain ⟨u, h11, h12⟩ := results_ok h9 h10.wrel hr
  have hb : act'.defers = [] ∧ ∃ v, (results fn act'.tmps).run P w' = .ok v w' ∧ ∃ v' s', K v' s' ∧ s'.next ≤ M ∧ ∃ u ρ', Ending.returned v = .returned u ∧ VRel σ ρ' v' u ∧ Post σ N0 w0 ρ s w ρ' s' w' :=
    ⟨h9.defers, u, h11, _, s', hk, hm, u, ρ', rfl, h12, h10⟩
  rcases he with rfl | rfl
  · cases h8; exact hb
  · cases h8; exact hb

/-- A loop, round by round. -/
def LoopTo (M : Nat) (P : Program) (σ : Syms) (N0 : Nat) (w0 : World) (x : Code) (a : AAct) (s : AState) (K : CK) : Prop :=
  ∀ ρ w act, ARel σ ρ a act → WRel σ N0 w0 ρ s w → Room M ρ s → ∀ b k cs, Comes' P (lone (b.at act (.code x :: .inLoop x :: k)) cs w) b k cs (OutK M σ N0 w0 ρ s w K)

theorem LoopTo.of {x : Code} {a : AAct} {s : AState} {K : CK} (h : CodeTo M P σ N0 w0 x a s (Round (fun a s => LoopTo M P σ N0 w0 x a s K) K)) : LoopTo M P σ N0 w0 x a s K := by
  intro ρ w act ha hw hc b k cs
  obtain ⟨e2, act1, w1, ⟨e, a1, s1, hk, hm, hq, ρ1, ha1, hP⟩, harr⟩ := h ρ w act ha hw hc b (.inLoop x :: k) cs
  cases e with
  | normal =>
    subst hq
    obtain ⟨e3, act2, w2, hq2, harr2⟩ := hk ρ1 w1 act1 ha1 hP.wrel (hc.post hP hm) b k cs
    exact ⟨e3, act2, w2, hq2.of hP hc hm, .of_steps (Steps.trans harr (.one step_inLoop)) harr2⟩
  | exit id => subst hq; exact ⟨_, act1, w1, ⟨_, a1, s1, hk, hm, rfl, ρ1, ha1, hP⟩, .pass (x := .inLoop x) rfl (fun _ _ => .inl (by simp [AExit.to])) harr⟩
  | goto l => subst hq; exact ⟨_, act1, w1, ⟨_, a1, s1, hk, hm, rfl, ρ1, ha1, hP⟩, .pass (x := .inLoop x) rfl (fun _ _ => .inl (by simp [AExit.to])) harr⟩
  | ret => subst hq; exact ⟨_, act1, w1, ⟨_, a1, s1, hk, hm, rfl, ρ1, ha1, hP⟩, .pass (x := .inLoop x) rfl (fun _ _ => .inl (by simp [AExit.to])) harr⟩

theorem CodeTo.loopTo {x : Code} {a : AAct} {s : AState} {K : CK} (h : LoopTo M P σ N0 w0 x a s K) : CodeTo M P σ N0 w0 (.loop x) a s K := by
  intro ρ w act ha hw hc b k cs
  obtain ⟨e2, act', w', hq, harr⟩ := h ρ w act ha hw hc b k cs
  exact ⟨e2, act', w', hq, .of_steps (.one step_loop) harr⟩

/-- A region that draws its order, run by the machine. -/
theorem CodeTo.draw {rec : Rec} (hrec : RunOk P σ N0 w0 rec) (hmx : P.follows .mixedOrders = true) {id : Nat} {ops : Array Oper} {a a1 : AAct} {s s1 : AState} {K : CK} (h : drawRun P rec ops.toList a s = .ok (a1, s1)) (hm : s1.next ≤ M) (hk : K .normal a1 s1) :
    CodeTo M P σ N0 w0 (.region id ops true) a s K :=
  fun ρ w act ha hw hc => draw_sound hrec.toRec hmx h ha hw (hc.fresh hm) fun act' w' ρ' h2 h3 => ⟨.normal, a1, s1, hk, hm, rfl, ρ', h2, h3⟩

end
end Go.Am


/-
  The machine that looks at every order in which a map may be ranged over; definitions.
-/
namespace Go.Am
open Go Go.RowKit
set_option linter.unusedVariables false
set_option linter.unusedSimpArgs false
noncomputable section

abbrev XRec (β : Type) := Task → AState → (Done → AState → R β) → R β

/-- All of them come to the same. -/
def allSame {α β : Type} (eq : β → β → Bool) (f : α → R β) (r : β) : List α → R β
  | [] => .ok r
  | x :: l => match f x with
    | .ok y => bif eq r y then allSame eq f r l else .fail "the order counts"
    | .fail w => .fail w

def nextX {β : Type} (eq : β → β → Bool) (ev : Operand → R AVal) (it : Operand) (s : AState) (k : AVal → AState → R β) : R β := do
  let (r, o) ← asPtr (← ev it)
  guardR (Nat.beq o 0) "next"
  match ← s.get r with
  | .iter none _ _ _ => k (.tup [.lit (.bool false)]) s
  | .iter (some m) since seen last => match ← s.get m with
    | .map es c => do
      guardR (Nat.ble since last && es.all fun e => Nat.blt e.born since) "next: new ones"
      let one : AEntry → R β := fun e => do
        guardR (vOne e.key) "next: key"
        let s1 ← s.write r (.iter (some m) since (seen ++ [e.born]) c)
        k (.tup [.lit (.bool true), .lit e.key, e.val]) s1
      match leftA es seen with
      | [] => k (.tup [.lit (.bool false)]) s
      | e :: l => do
        let r ← one e
        allSame eq one r l
    | _ => .fail "next"
  | _ => .fail "next"

/-- A comparison of two unknown numbers. -/
def unsure (op : Op) (vs : List AVal) : Bool := match op, vs with
  | .binOp .lss _ _ _ _, [.sym _, .sym _] => true
  | _, _ => false

def unsureR (op : Op) (vs : R (List AVal)) : Bool := match vs with
  | .ok vs => unsure op vs
  | .fail _ => false

def otherX (P : Program) (both : Bool) {β : Type} (eq : β → β → Bool) (rec : Rec) (ev : Operand → R AVal) (o : Oper) (s : AState) (k : AVal → AState → R β) : R β :=
  match aop P ev o s with
  | .ok (.val v, s1) => k v s1
  | .ok _ => .fail "a choice"
  | .fail w => bif both && unsureR o.op (evs ev o.op.operands.toList) then do
      let r ← k (.lit (.bool true)) s
      allSame eq (fun b => k (.lit (.bool b)) s) r [false]
    else do
      let p ← askA rec ev o s w
      k p.1 p.2

def callX (P : Program) {β : Type} (rec : Rec) (X : XRec β) (ev : Operand → R AVal) (o : Oper) (c : Call) (s : AState) (k : AVal → AState → R β) : R β :=
  match opCall P ev c s with
  | .ok (.val v, s1) => k v s1
  | .ok (.enter f args, s1) => X (.call f args) s1 fun d s2 => match d with
    | .val v => k v s2
    | _ => .fail "call"
  | .ok _ => .fail "a choice"
  | .fail w => do
    let p ← askA rec ev o s w
    k p.1 p.2

def opX (P : Program) (both : Bool) {β : Type} (eq : β → β → Bool) (rec : Rec) (X : XRec β) (ev : Operand → R AVal) (o : Oper) (s : AState) (k : AVal → AState → R β) : R β :=
  match o.op with
  | .next it false => nextX eq ev it s k
  | .call c => callX P rec X ev o c s k
  | _ => otherX P both eq rec ev o s k

def opsX (P : Program) (both : Bool) (M : Nat) {β : Type} (eq : β → β → Bool) (rec : Rec) (X : XRec β) (ops : List Oper) : List Oper → AAct → AState → (AAct → AState → R β) → R β
  | [], a, s, k => k a s
  | o :: rest, a, s, k => do
    let w ← wantedA ops a o
    bif w then opX P both eq rec X (aev a) o s fun v s1 => bif Nat.ble s1.next M then do
        let a1 ← a.put o.dst v
        opsX P both M eq rec X ops rest a1 s1 k
      else .fail "too many blocks"
    else do
      let a1 ← a.put o.dst aundef
      opsX P both M eq rec X ops rest a1 s k

def stepX (P : Program) (both : Bool) (M : Nat) (prims : Prims) {β : Type} (eq : β → β → Bool) (rec : Rec) (X : XRec β) : XRec β
  | .call f args, s, k => match prims f with
    | some p => do
      let (v, s1) ← p args s
      bif Nat.ble s1.next M then k (.val v) s1 else .fail "too many blocks"
    | none => do
      let fn ← R.of "no such function" P.funcs[f]?
      let body ← R.of "no body" fn.body
      guardR (Nat.ble args.length fn.ntmps && Nat.ble fn.ntmps lim) "call"
      initTmps args (nat_lit 0) .leaf fun t => X (.code body ⟨t, fn.ntmps⟩) s fun d s1 =>
        let fin : AAct → R β := fun a => do
          match ← resA P a s1 fn.results.toList with
          | [v] => k (.val v) s1
          | vs => k (.val (.tup vs)) s1
        match d with
        | .out .normal a => fin a
        | .out .ret a => fin a
        | _ => .fail "jump"
  | .code c a, s, k => match c with
    | .skip | .label _ => k (.out .normal a) s
    | .region _ ops d => bif d then do
        let p ← drawRun P rec ops.toList a s
        bif Nat.ble p.2.next M then k (.out .normal p.1) p.2 else .fail "too many blocks"
      else opsX P both M eq rec X ops.toList ops.toList a s fun a1 s1 => k (.out .normal a1) s1
    | .seq x y => X (.code x a) s fun d s1 => match d with
      | .out .normal a1 => X (.code y a1) s1 k
      | d => k d s1
    | .cond c x y => do
      let b ← asBoolLit (← aev a c)
      X (.code (bif b then x else y) a) s k
    | .block id x => X (.code x a) s fun d s1 => match d with
      | .out (.exit id') a1 => k (.out (bif Nat.beq id' id then .normal else .exit id') a1) s1
      | d => k d s1
    | .loop x => X (.code x a) s fun d s1 => match d with
      | .out .normal a1 => X (.code (.loop x) a1) s1 k
      | d => k d s1
    | .exit id => k (.out (.exit id) a) s
    | .goto l => k (.out (.goto l) a) s
    | .ret => k (.out .ret a) s
    | .scope x => X (.inscope x x a) s k
    | _ => .fail "code"
  | .ask o vs, s, k => .fail "ask"
  | .inscope body c a, s, k => X (.code c a) s fun d s1 => match d with
    | .out (.goto l) a1 => match findLabel body l with
      | some rest => X (.inscope body rest a1) s1 k
      | none => k (.out (.goto l) a1) s1
    | d => k d s1

def runX (P : Program) (both : Bool) (M : Nat) (prims : Prims) {β : Type} (eq : β → β → Bool) (rec : Rec) (n : Nat) : XRec β :=
  Nat.rec (fun _ _ _ => .fail "fuel") (fun _ ih => stepX P both M prims eq rec ih) n

end
end Go.Am


/-
  The machine that looks at every order is sound.
-/
namespace Go.Am
open Go Go.RowKit
set_option linter.unusedVariables false
set_option linter.unusedSimpArgs false

section
variable {σ : Syms} {N0 : Nat} {w0 : World} {P : Program} {M : Nat} {both : Bool} {β : Type} {eq : β → β → Bool} {rec : Rec} {X : XRec β} {prims : Prims}

structure XOk (M : Nat) (P : Program) (σ : Syms) (N0 : Nat) (w0 : World) {β : Type} (X : XRec β) : Prop where
  call : ∀ f args s k r, X (.call f args) s k = .ok r → plainFn P f = true → CallTo M P σ N0 w0 f args s (fun v s' => k (.val v) s' = .ok r)
  code : ∀ c a s k r, X (.code c a) s k = .ok r → CodeTo M P σ N0 w0 c a s (fun e a s' => k (.out e a) s' = .ok r)
  loop : ∀ x a s k r, X (.code (.loop x) a) s k = .ok r → LoopTo M P σ N0 w0 x a s (fun e a s' => k (.out e a) s' = .ok r)
  scope : ∀ body c a s k r, X (.inscope body c a) s k = .ok r → InScopeTo M P σ N0 w0 body c a s (fun e a s' => k (.out e a) s' = .ok r)

theorem allSame_ok (heq : ∀ x y, eq x y = true → x = y) {α : Type} {f : α → R β} {r q : β} : ∀ {l : List α}, allSame eq f r l = .ok q → q = r ∧ ∀ x ∈ l, f x = .ok r
  | [], h => by cases h; exact ⟨rfl, fun x hx => by cases hx⟩
  | x :: l, h => by
    unfold allSame at h
    split at h
    · rename_i y hy
      cases hq : eq r y with
      | false => rw [hq] at h; cases h
      | true =>
        rw [hq, cond_true] at h
        obtain ⟨h1, h2⟩ := allSame_ok heq h
        have := heq _ _ hq
        subst this
        refine ⟨h1, fun z hz => ?_⟩
        rcases List.mem_cons.1 hz with rfl | hz
        · exact hy
        · exact h2 z hz
    · cases h

theorem R.ok_bind {α β : Type} {x : α} {f : α → R β} : (R.ok x >>= f) = f x := rfl

theorem stepOp_of {ops : List Oper} {o : Oper} {a a1 : AAct} {s s1 : AState} {v : AVal} (hg : wantedA ops a o = .ok true) (hx : execA P rec (aev a) o s = .ok (v, s1)) (hp : a.put o.dst v = .ok a1) : stepOp P rec ops o a s = .ok (a1, s1) := by
  unfold stepOp
  rw [hg, R.ok_bind, cond_true, hx, R.ok_bind, hp, R.ok_bind]

theorem opCall_enter {ev : Operand → R AVal} {c : Call} {s s1 : AState} {f : FuncId} {args : List AVal} (h : opCall P ev c s = .ok (.enter f args, s1)) : s1 = s ∧ plainFn P f = true := by
  unfold opCall at h
  replace h := R.bind_ok' h
  obtain ⟨args', h1, h⟩ := h
  split at h
  · replace h := R.bind_ok' h
    obtain ⟨⟨v, s2⟩, h2, h⟩ := h
    obtain ⟨h3, _⟩ := okv_ok h
    cases h3
  · replace h := R.bind_ok' h
    obtain ⟨fv, h2, h⟩ := h
    split at h
    · replace h := R.bind_ok' h
      obtain ⟨_, h3, h⟩ := h
      cases h
      exact ⟨rfl, guardR_ok h3⟩
    · cases h
  · cases h

theorem nextX_ok (hrec : RunOk P σ N0 w0 rec) (heq : ∀ x y, eq x y = true → x = y) {ops : Array Oper} {o : Oper} {l : List Oper} {a : AAct} {s : AState} {it : Operand} {k : AVal → AState → R β} {r : β} {K : AAct → AState → Prop} (ho : o.op = .next it false)
    (hg : wantedA ops.toList a o = .ok true) (h : nextX eq (aev a) it s k = .ok r) (hk : ∀ v s1, k v s1 = .ok r → s1.next ≤ M ∧ ∃ a1, a.put o.dst v = .ok a1 ∧ OpsTo M P σ N0 w0 ops l a1 s1 K) : OpsTo M P σ N0 w0 ops (o :: l) a s K := by
  unfold nextX at h
  replace h := R.bind_ok' h
  obtain ⟨x, h1, h⟩ := h
  replace h := R.bind_ok' h
  obtain ⟨⟨rr, oo⟩, h2, h⟩ := h
  replace h := R.bind_ok' h
  obtain ⟨_, h3, h⟩ := h
  replace h := R.bind_ok' h
  obtain ⟨ob, h4, h⟩ := h
  have h3 := Nat.eq_of_beq_eq_true (guardR_ok h3)
  replace h3 : oo = 0 := h3
  subst h3
  have hit : aev a it = .ok (.ptr rr 0) := by
    rw [h1]
    unfold asPtr at h2
    split at h2
    · cases h2; rfl
    · cases h2
  split at h
  · rename_i since seen last
    obtain ⟨hm, a1, hp, hK⟩ := hk _ _ h
    refine OpsTo.step hrec (stepOp_of (v := .tup [.lit (.bool false)]) hg ?_ hp) hm hK
    have : aop P (aev a) o s = .ok (.val (.tup [.lit (.bool false)]), s) := by
      unfold aop
      rw [ho]
      show opNext (aev a) it s = _
      unfold opNext
      rw [hit]
      show (s.get rr).bind _ = _
      rw [h4]
      rfl
    unfold execA
    rw [this]
  · rename_i m since seen last
    replace h := R.bind_ok' h
    obtain ⟨mo, h5, h⟩ := h
    split at h
    · rename_i es c
      replace h := R.bind_ok' h
      obtain ⟨_, h6, h⟩ := h
      have h6 := guardR_ok h6
      simp only [Bool.and_eq_true] at h6
      have hsl := Nat.le_of_ble_eq_true h6.1
      have hold : es.all (fun e => decide (e.born < since)) = true := by
        rw [List.all_eq_true]
        intro e he
        have := List.all_eq_true.1 h6.2 e he
        exact decide_eq_true (Nat.le_of_ble_eq_true this)
      have one : ∀ (e : AEntry), (do
          guardR (vOne e.key) "next: key"
          let s1 ← s.write rr (.iter (some m) since (seen ++ [e.born]) c)
          k (.tup [.lit (.bool true), .lit e.key, e.val]) s1 : R β) = .ok r → vOne e.key = true ∧ ∃ s1 a1, s.write rr (.iter (some m) since (seen ++ [e.born]) c) = .ok s1 ∧ a.put o.dst (.tup [.lit (.bool true), .lit e.key, e.val]) = .ok a1 ∧ OpsTo M P σ N0 w0 ops l a1 s1 K := fun e h => by
        replace h := R.bind_ok' h
        obtain ⟨_, h7, h⟩ := h
        replace h := R.bind_ok' h
        obtain ⟨s1, h8, h⟩ := h
        obtain ⟨_, a1, hp, hK⟩ := hk _ _ h
        exact ⟨guardR_ok h7, s1, a1, h8, hp, hK⟩
      refine OpsTo.next hg ho hit (get_ok h4) (get_ok h5) hold hsl (fun hl => ?_) fun e he => ?_
      · rw [hl] at h
        obtain ⟨_, a1, hp, hK⟩ := hk _ _ h
        exact ⟨a1, hp, hK⟩
      · split at h
        · rename_i hl
          rw [hl] at he
          cases he
        · rename_i e0 l0 hl
          rw [hl] at he
          replace h := R.bind_ok' h
          obtain ⟨r1, h7, h⟩ := h
          obtain ⟨h8, h9⟩ := allSame_ok heq h
          subst h8
          refine one e ?_
          rcases List.mem_cons.1 he with rfl | he
          · exact h7
          · exact h9 e he
    · cases h
  · cases h

theorem ask_step (hrec : RunOk P σ N0 w0 rec) {ops : Array Oper} {o : Oper} {l : List Oper} {a : AAct} {s : AState} {w : String} {k : AVal → AState → R β} {r : β} {K : AAct → AState → Prop} (h1 : aop P (aev a) o s = .fail w)
    (hg : wantedA ops.toList a o = .ok true) (h : (do let p ← askA rec (aev a) o s w; k p.1 p.2) = .ok r) (hk : ∀ v s1, k v s1 = .ok r → s1.next ≤ M ∧ ∃ a1, a.put o.dst v = .ok a1 ∧ OpsTo M P σ N0 w0 ops l a1 s1 K) : OpsTo M P σ N0 w0 ops (o :: l) a s K := by
  replace h := R.bind_ok' h
  obtain ⟨⟨v, s1⟩, h2, h⟩ := h
  obtain ⟨hm, a1, hp, hK⟩ := hk _ _ h
  refine OpsTo.step hrec (stepOp_of (v := v) hg ?_ hp) hm hK
  unfold execA
  rw [h1]
  exact h2

theorem val_step (hrec : RunOk P σ N0 w0 rec) {ops : Array Oper} {o : Oper} {l : List Oper} {a : AAct} {s s1 : AState} {v : AVal} {k : AVal → AState → R β} {r : β} {K : AAct → AState → Prop} (h1 : aop P (aev a) o s = .ok (.val v, s1))
    (hg : wantedA ops.toList a o = .ok true) (h : k v s1 = .ok r) (hk : ∀ v s1, k v s1 = .ok r → s1.next ≤ M ∧ ∃ a1, a.put o.dst v = .ok a1 ∧ OpsTo M P σ N0 w0 ops l a1 s1 K) : OpsTo M P σ N0 w0 ops (o :: l) a s K := by
  obtain ⟨hm, a1, hp, hK⟩ := hk _ _ h
  refine OpsTo.step hrec (stepOp_of (v := v) hg ?_ hp) hm hK
  unfold execA
  rw [h1]

theorem unsure_run {o : Oper} {op : BinOp} {act : Act} {w : World} {t yt : TypeId} {x y : Operand} {i j : Nat} (ho : o.op = .binOp .lss t x y yt) (hk : (σ i).1 = (σ j).1) (hx : act.eval x = .int (σ i).1 (σ i).2) (hy : act.eval y = .int (σ j).1 (σ j).2) :
    (execOp act.eval o).run P w = .ok (.value (.bool (decide ((σ i).2 < (σ j).2)))) w := by
  unfold execOp
  rw [ho]
  simp only []
  rw [hx, hy, ← hk, Sem.run_bind]
  have : (do eqGuard .lss t x y (.int (σ i).1 (σ i).2) (.int (σ i).1 (σ j).2); binOp .lss t (.int (σ i).1 (σ i).2) (.int (σ i).1 (σ j).2) : Sem Value).run P w = .ok (.bool (decide ((σ i).2 < (σ j).2))) w := by
    rw [Sem.run_bind]
    have h1 : (eqGuard .lss t x y (.int (σ i).1 (σ i).2) (.int (σ i).1 (σ j).2)).run P w = .ok () w := by simp [eqGuard]
    rw [h1, Result.andThen_ok, binOp_lss, Sem.run_pure]
  rw [this]
  rfl

theorem opX_ok (hb : both = true → ∀ i j, (σ i).1 = (σ j).1) (hrec : RunOk P σ N0 w0 rec) (hX : XOk M P σ N0 w0 X) (heq : ∀ x y, eq x y = true → x = y) {ops : Array Oper} {o : Oper} {l : List Oper} {a : AAct} {s : AState} {k : AVal → AState → R β} {r : β} {K : AAct → AState → Prop}
    (hg : wantedA ops.toList a o = .ok true) (h : opX P both eq rec X (aev a) o s k = .ok r) (hk : ∀ v s1, k v s1 = .ok r → s1.next ≤ M ∧ ∃ a1, a.put o.dst v = .ok a1 ∧ OpsTo M P σ N0 w0 ops l a1 s1 K) : OpsTo M P σ N0 w0 ops (o :: l) a s K := by
  unfold opX at h
  split at h
  · rename_i it ho
    exact nextX_ok hrec heq ho hg h hk
  · rename_i c ho
    have hc : aop P (aev a) o s = opCall P (aev a) c s := by unfold aop; rw [ho]
    unfold callX at h
    split at h
    · rename_i v s1 h1
      exact val_step hrec (hc.trans h1) hg h hk
    · rename_i f args s1 h1
      obtain ⟨rfl, hpl⟩ := opCall_enter h1
      intro ρ w act Q ha hw hr hQ
      exact OpsTo.call hg (hc.trans h1) hr.1 ((hX.call _ _ _ _ _ h hpl).mono fun v s2 h2 => (hk v s2 h2).2) ρ w act Q ha hw hr hQ
    · cases h
    · rename_i w h1
      exact ask_step hrec (hc.trans h1) hg h hk
  · unfold otherX at h
    split at h
    · rename_i v s1 h1
      exact val_step hrec h1 hg h hk
    · cases h
    · rename_i w h1
      cases hq : (both && unsureR o.op (evs (aev a) o.op.operands.toList)) with
      | false => rw [hq, cond_false] at h; exact ask_step hrec h1 hg h hk
      | true =>
        rw [hq, cond_true] at h
        simp only [Bool.and_eq_true] at hq
        replace h := R.bind_ok' h
        obtain ⟨r1, h2, h⟩ := h
        obtain ⟨h3, h4⟩ := allSame_ok heq h
        subst h3
        have h5 : ∀ b : Bool, k (.lit (.bool b)) s = .ok r := fun b => by
          cases b with
          | true => exact h2
          | false => exact h4 false (by simp)
        have hu := hq.2
        unfold unsureR at hu
        split at hu
        · rename_i vs hvs
          unfold unsure at hu
          split at hu
          · rename_i t x y yt i j hop
            intro ρ w1 act Q ha hw hr hQ
            have hwant : Region.wanted o (yielded ops act.tmps) = true := wantedA_ok hg fun t v _ hv => ha.get t v hv
            show (if Region.wanted o (yielded ops act.tmps) then _ else _)
            rw [hwant]
            simp only [if_true]
            left
            have hop' : o.op.operands.toList = [x, y] := by rw [hop]; simp [Op.operands]
            have hv := evs_ok (σ := σ) (ρ := ρ) (e := act.eval) (fun z _ => aev_of z fun t v _ hv => ha.get t v hv) hvs
            rw [hop'] at hv
            obtain ⟨u1, q1, e1, hu1, u2, q2, e2, hu2, e3⟩ := hv
            simp only [List.map_cons, List.map_nil, List.cons.injEq] at e1
            obtain ⟨e1, e1'⟩ := e1
            rw [← e1'] at e2
            simp only [List.cons.injEq] at e2
            unfold Oper.wp
            rw [unsure_run (σ := σ) (op := .lss) (i := i) (j := j) hop (hb hq.1 i j) (e1.trans hu1) (e2.1.trans hu2), Oper.upon_value]
            obtain ⟨hm, a1, hp, hK⟩ := hk _ _ (h5 (decide ((σ i).2 < (σ j).2)))
            exact hK.behind (ha.put (Ext.refl _) (v := .lit (.bool (decide ((σ i).2 < (σ j).2)))) ⟨rfl, rfl⟩ hp) (Post.refl hw) hr hr.1 hQ
          · cases hu
        · cases hu

theorem opsX_ok (hb : both = true → ∀ i j, (σ i).1 = (σ j).1) (hrec : RunOk P σ N0 w0 rec) (hX : XOk M P σ N0 w0 X) (heq : ∀ x y, eq x y = true → x = y) {ops : Array Oper} {r : β} : ∀ {l : List Oper} {a : AAct} {s : AState} {k : AAct → AState → R β},
    opsX P both M eq rec X ops.toList l a s k = .ok r → OpsTo M P σ N0 w0 ops l a s fun a' s' => k a' s' = .ok r
  | [], a, s, k, h => OpsTo.nil h
  | o :: l, a, s, k, h => by
    unfold opsX at h
    replace h := R.bind_ok' h
    obtain ⟨b, hg, h⟩ := h
    cases b with
    | true =>
      rw [cond_true] at h
      refine opX_ok hb hrec hX heq hg h fun v s1 h1 => ?_
      cases hq : Nat.ble s1.next M with
      | false => rw [hq] at h1; cases h1
      | true =>
        rw [hq, cond_true] at h1
        replace h1 := R.bind_ok' h1
        obtain ⟨a1, hp, h1⟩ := h1
        exact ⟨Nat.le_of_ble_eq_true hq, a1, hp, opsX_ok hb hrec hX heq h1⟩
    | false =>
      rw [cond_false] at h
      replace h := R.bind_ok' h
      obtain ⟨a1, hp, h⟩ := h
      intro ρ w act Q ha hw hc hQ
      refine OpsTo.step hrec (a1 := a1) (s1 := s) ?_ hc.1 (opsX_ok hb hrec hX heq h) ρ w act Q ha hw hc hQ
      unfold stepOp
      rw [hg, R.ok_bind, cond_false, hp, R.ok_bind]

theorem stepX_call (hrec : RunOk P σ N0 w0 rec) (hX : XOk M P σ N0 w0 X) (hp : ∀ f p, prims f = some p → PrimOk P σ N0 w0 f p) : ∀ f args s k r, stepX P both M prims eq rec X (.call f args) s k = .ok r → CallTo M P σ N0 w0 f args s (fun v s' => k (.val v) s' = .ok r) := by
  intro f args s k r h
  unfold stepX at h
  simp only [] at h
  split at h
  · rename_i p hpf
    replace h := R.bind_ok' h
    obtain ⟨⟨v, s1⟩, h1, h⟩ := h
    replace h : (bif Nat.ble s1.next M then k (.val v) s1 else .fail "too many blocks") = .ok r := h
    cases hq : Nat.ble s1.next M with
    | false => rw [hq] at h; cases h
    | true =>
      rw [hq, cond_true] at h
      exact CallTo.of_prim (hp f p hpf) h1 (Nat.le_of_ble_eq_true hq) h
  · replace h := R.bind_ok' h
    obtain ⟨fn, h1, h⟩ := h
    replace h := R.bind_ok' h
    obtain ⟨body, h2, h⟩ := h
    replace h := R.bind_ok' h
    obtain ⟨_, h3, h⟩ := h
    replace h3 := guardR_ok h3
    simp only [Bool.and_eq_true] at h3
    have hn1 := Nat.le_of_ble_eq_true h3.1
    have hn2 := Nat.le_of_ble_eq_true h3.2
    obtain ⟨t, h5, ht⟩ := initTmps_ok h (by omega)
    refine CallTo.body (R.of_ok h1) (R.of_ok h2) h3 ht ((hX.code _ _ _ _ _ h5).mono fun e a s' h6 => ?_)
    have fin : ∀ {x : R (List AVal)}, (x >>= fun vs => (match vs with | [v] => k (.val v) s' | vs => k (.val (.tup vs)) s' : R β)) = .ok r → ∃ vs, x = .ok vs ∧ k (.val (retA vs)) s' = .ok r := fun {x} h => by
      replace h := R.bind_ok' h
      obtain ⟨vs, h7, h⟩ := h
      refine ⟨vs, h7, ?_⟩
      cases vs with
      | nil => exact h
      | cons v q => cases q with
        | nil => exact h
        | cons v' q' => exact h
    cases e with
    | normal => exact ⟨.inl rfl, fin h6⟩
    | ret => exact ⟨.inr rfl, fin h6⟩
    | exit id => cases h6
    | goto l => cases h6

theorem stepX_loop (hX : XOk M P σ N0 w0 X) : ∀ x a s k r, stepX P both M prims eq rec X (.code (.loop x) a) s k = .ok r → LoopTo M P σ N0 w0 x a s (fun e a s' => k (.out e a) s' = .ok r) := by
  intro x a s k r h
  refine LoopTo.of ((hX.code _ _ _ _ _ h).mono fun e a1 s1 h1 => ?_)
  cases e with
  | normal => exact hX.loop _ _ _ _ _ h1
  | exit id => exact h1
  | goto l => exact h1
  | ret => exact h1

theorem stepX_scope (hX : XOk M P σ N0 w0 X) : ∀ body c a s k r, stepX P both M prims eq rec X (.inscope body c a) s k = .ok r → InScopeTo M P σ N0 w0 body c a s (fun e a s' => k (.out e a) s' = .ok r) := by
  intro body c a s k r h
  refine InScopeTo.of ((hX.code _ _ _ _ _ h).mono fun e a1 s1 h1 => ?_)
  cases e with
  | goto l =>
    simp only [Scoped]
    split
    · rename_i rest hl
      simp only [hl] at h1
      exact hX.scope _ _ _ _ _ _ h1
    · rename_i hl
      simp only [hl] at h1
      exact h1
  | normal => exact h1
  | exit id => exact h1
  | ret => exact h1

theorem stepX_code (hb : both = true → ∀ i j, (σ i).1 = (σ j).1) (hm : P.follows .mixedOrders = true) (hrec : RunOk P σ N0 w0 rec) (hX : XOk M P σ N0 w0 X) (heq : ∀ x y, eq x y = true → x = y) :
    ∀ c a s k r, stepX P both M prims eq rec X (.code c a) s k = .ok r → CodeTo M P σ N0 w0 c a s (fun e a s' => k (.out e a) s' = .ok r) := by
  intro c a s k r h
  cases c with
  | skip => exact CodeTo.skip h
  | label l => exact CodeTo.label h
  | exit id => exact CodeTo.exit h
  | goto l => exact CodeTo.goto h
  | ret => exact CodeTo.ret h
  | region id ops d =>
    cases d with
    | true =>
      replace h := R.bind_ok' h
      obtain ⟨⟨a1, s1⟩, h1, h⟩ := h
      replace h : (bif Nat.ble s1.next M then k (.out .normal a1) s1 else .fail "too many blocks") = .ok r := h
      cases hq : Nat.ble s1.next M with
      | false => rw [hq] at h; cases h
      | true =>
        rw [hq, cond_true] at h
        exact CodeTo.draw hrec hm h1 (Nat.le_of_ble_eq_true hq) h
    | false => exact CodeTo.region (opsX_ok hb hrec hX heq h)
  | seq x y =>
    refine CodeTo.seq ((hX.code _ _ _ _ _ h).mono fun e a1 s1 h1 => ?_)
    cases e with
    | normal => exact hX.code _ _ _ _ _ h1
    | exit id => exact h1
    | goto l => exact h1
    | ret => exact h1
  | cond c x y =>
    replace h := R.bind_ok' h
    obtain ⟨v, h1, h⟩ := h
    replace h := R.bind_ok' h
    obtain ⟨b, h2, h⟩ := h
    have hv : v = .lit (.bool b) := by
      unfold asBoolLit at h2
      split at h2
      · cases h2; rfl
      · cases h2
    subst hv
    exact CodeTo.cond h1 (hX.code _ _ _ _ _ h)
  | block id x =>
    refine CodeTo.block ((hX.code _ _ _ _ _ h).mono fun e a1 s1 h1 => ?_)
    cases e with
    | normal => exact h1
    | exit id => exact h1
    | goto l => exact h1
    | ret => exact h1
  | loop x => exact CodeTo.loopTo (stepX_loop (both := both) (prims := prims) (eq := eq) (rec := rec) hX x a s k r h)
  | scope x => exact CodeTo.scope (hX.scope _ _ _ _ _ _ h)
  | _ => cases h

theorem runX_ok (hb : both = true → ∀ i j, (σ i).1 = (σ j).1) (hm : P.follows .mixedOrders = true) (hrec : RunOk P σ N0 w0 rec) (heq : ∀ x y, eq x y = true → x = y) (hp : ∀ f p, prims f = some p → PrimOk P σ N0 w0 f p) : ∀ n, XOk M P σ N0 w0 (runX P both M prims eq rec n)
  | 0 => ⟨fun f args s k r h => (by cases h), fun c a s k r h => (by cases h), fun x a s k r h => (by cases h), fun body c a s k r h => (by cases h)⟩
  | n + 1 =>
    have ih := runX_ok hb hm hrec heq hp n
    ⟨fun f args s k r h _ => stepX_call (both := both) (eq := eq) hrec ih hp f args s k r h, stepX_code (prims := prims) hb hm hrec ih heq, stepX_loop (both := both) (prims := prims) (eq := eq) (rec := rec) ih, stepX_scope (both := both) (prims := prims) (eq := eq) (rec := rec) ih⟩

end
end Go.Am


/-
  Contracts that are worked out by looking at every order: of calls that turn nothing that is old, and answer a closed value or a row of them.
-/
namespace Go.Am
open Go Go.RowKit
set_option linter.unusedVariables false
set_option linter.unusedSimpArgs false

noncomputable section

inductive XRes where
  | lit (v : Value)
  | row (n : Nat) (cap : ACap) (g : Bool) (cs : List AVal)

def isLit : AVal → Bool
  | .lit _ => true
  | _ => false

def sameCap : ACap → ACap → Bool
  | .known a, .known b => Nat.beq a b
  | .grown a, .grown b => Nat.beq a b
  | _, _ => false

def eqRes : XRes → XRes → Bool
  | .lit v, .lit w => sameLit v w
  | .row n c g l, .row n' c' g' l' => Nat.beq n n' && (sameCap c c' && (g == g' && sameCells l l'))
  | _, _ => false

def sumX (next : Nat) : Done → AState → R XRes
  | .val (.lit v), s => bif Nat.ble next s.low then .ok (.lit v) else .fail "what is old is turned"
  | .val (.slice b o n cap), s => bif Nat.beq o 0 && (Nat.ble next s.low && Nat.ble next b) then do
      match ← s.get b with
      | .cells cs g => bif cs.all isLit then .ok (.row n cap g cs) else .fail "cells that are not closed"
      | _ => .fail "cells expected"
    else .fail "what is old is turned"
  | _, _ => .fail "a value that is not closed"

def bump (s : AState) (room : Nat) : R AState :=
  match s with
  | ⟨h, n, l, ro⟩ => forceN (Nat.add n room) fun m => cond (Nat.ble m lim) (.ok ⟨h, m, l, ro⟩) (.fail "too many blocks")

def backX (room : Nat) (s : AState) : XRes → R (AVal × AState)
  | .lit v => do
    let s1 ← bump s room
    .ok (.lit v, s1)
  | .row n cap g cs => do
    let s1 ← bump s room
    let s2 ← s1.alloc (.cells cs g)
    .ok (.slice s1.next 0 n cap, s2)

def exploreX (P : Program) (prims : Prims) (n room : Nat) (f : FuncId) (args : List AVal) (s : AState) : R (AVal × AState) := do
  let r ← runX P false (Nat.add s.next room) prims eqRes (run P prims noFacts (drawRun P) n) n (.call f args) (setLow s big) (sumX s.next)
  backX room s r

end

section
variable {σ : Syms} {N0 : Nat} {w0 : World} {P : Program} {ρ : Ren} {s s' : AState} {w w' : World} {room : Nat}

theorem eqRes_ok : ∀ x y, eqRes x y = true → x = y := by
  intro x y h
  unfold eqRes at h
  split at h
  · rw [sameLit_ok h]
  · rename_i n c g l n' c' g' l'
    simp only [Bool.and_eq_true] at h
    obtain ⟨h1, h2, h3, h4⟩ := h
    have e1 := Nat.eq_of_beq_eq_true h1
    have e4 := sameCells_ok h4
    have e3 : g = g' := by simpa using h3
    have e2 : c = c' := by
      unfold sameCap at h2
      split at h2
      · rw [Nat.eq_of_beq_eq_true h2]
      · rw [Nat.eq_of_beq_eq_true h2]
      · cases h2
    rw [e1, e2, e3, e4]
  · cases h

theorem bump_ok (h : bump s room = .ok s') : s'.heap = s.heap ∧ s'.next = s.next + room ∧ s'.low = s.low ∧ s'.ro = s.ro ∧ s'.next ≤ lim := by
  obtain ⟨hp, n, l, ro⟩ := s
  unfold bump at h
  simp only [forceN_eq] at h
  cases hq : Nat.ble (Nat.add n room) lim with
  | false => rw [hq] at h; cases h
  | true => rw [hq, cond_true] at h; cases h; exact ⟨rfl, rfl, rfl, rfl, Nat.le_of_ble_eq_true hq⟩

theorem Abs.bump (h : bump s room = .ok s') : Abs s s' := by
  obtain ⟨e1, e2, e3, e4, e5⟩ := bump_ok h
  exact ⟨by omega, e4, by omega, fun b _ _ => by rw [e1], fun b _ hl => by rw [e1] at hl; exact hl, fun hd b hb => by rw [e1] at hb; have := hd b hb; omega, fun _ => by omega⟩

theorem Post.bump (h : WRel σ N0 w0 ρ s w) (hb : bump s room = .ok s') : Post σ N0 w0 ρ s w ρ s' w := by
  obtain ⟨e1, e2, e3, e4, e5⟩ := bump_ok hb
  have hbn := h.bnd
  refine ⟨Ext.refl _, fun _ _ h => .inl h, by omega, e4, by omega, fun b _ _ => by rw [e1], fun b _ hl => by rw [e1] at hl; exact hl, ?_, fun _ _ _ => rfl, Nat.le_refl _⟩
  refine ⟨h.base, h.n0, by omega, fun b b' L L' h1 h2 h3 h4 => ?_, fun b hb => ?_, fun b L e => ?_, fun b o hb L e => ?_⟩
  · rw [e4] at h1 h2; rw [e1] at h3 h4; exact h.inj b b' L L' h1 h2 h3 h4
  · rw [e1] at hb; have := h.dom b hb; omega
  · rw [e4]; exact h.rng b L e
  · rw [e1] at hb; rw [e4]; exact h.heap b o hb L e

/-- A block that a call has laid gets a name. -/
theorem Post.newAt {o : AObj} {L : Loc} (h : WRel σ N0 w0 ρ s w) (hb : Below w.heap.size w w') (ha : s.alloc o = .ok s') (hf : Fresh ρ s.next s'.next)
    (hL : w.heap.size ≤ L.blk) (hL' : L.blk < w'.heap.size) (ho : ∀ ρ', Ext ρ ρ' → ORel σ ρ' L true w' o) :
    ∃ ρ', ρ' s.next = some L ∧ Post σ N0 w0 ρ s w ρ' s' w' := by
  obtain ⟨⟨e1, e1'⟩, e2, e3, e4⟩ := alloc_ok ha
  have hro := h.bnd.1
  have hfn : ρ s.next = none := hf s.next (Nat.le_refl _) (by omega)
  let ρ' : Ren := fun b => if b = s.next then some L else ρ b
  have hρ : ρ' s.next = some L := by simp [ρ']
  have hne : ∀ b, b ≠ s.next → ρ' b = ρ b := fun b hb => by simp [ρ', hb]
  have ext : Ext ρ ρ' := fun b L e => by
    by_cases hb : b = s.next
    · subst hb; rw [hfn] at e; cases e
    · rw [hne b hb]; exact e
  have blk := hb.block
  have hsz := hb.size
  refine ⟨ρ', hρ, ext, fun b L' e => ?_, by omega, e3, by omega, fun b h1 _ => by rw [e4, if_neg (by omega)], fun b h1 => by rw [e4, if_neg (by omega)]; exact id, ?_, fun c hc _ => blk c hc, hsz⟩
  · by_cases hb : b = s.next
    · subst hb
      rw [hρ] at e
      cases e
      exact .inr ⟨Nat.le_refl _, by omega, .inl hL⟩
    · rw [hne b hb] at e; exact .inl e
  · have hn0 := h.n0
    refine ⟨h.base.trans (hb.mono h.n0), by omega, by omega, fun b b' M M' hr hr' hb hb' eb eb' hM => ?_, fun b hb => ?_, fun b M e => ?_, fun b o' hb M e => ?_⟩
    · rw [e3] at hr hr'
      rw [e4] at hb hb'
      by_cases h1 : b = s.next
      · by_cases h2 : b' = s.next
        · omega
        · exfalso
          subst h1
          rw [hne b' h2] at eb'
          rw [hρ] at eb
          cases eb
          have := (h.rng b' M' eb').1
          omega
      · by_cases h2 : b' = s.next
        · exfalso
          subst h2
          rw [hne b h1] at eb
          rw [hρ] at eb'
          cases eb'
          have := (h.rng b M eb).1
          omega
        · rw [if_neg h1] at hb
          rw [if_neg h2] at hb'
          rw [hne b h1] at eb
          rw [hne b' h2] at eb'
          exact h.inj b b' M M' hr hr' hb hb' eb eb' hM
    · rw [e4] at hb
      by_cases h1 : b = s.next
      · omega
      · rw [if_neg h1] at hb; have := h.dom b hb; omega
    · rw [e3]
      by_cases h1 : b = s.next
      · subst h1
        rw [hρ] at e
        cases e
        exact ⟨hL', fun _ => by omega, fun h2 => by omega⟩
      · rw [hne b h1] at e
        have := h.rng b M e
        exact ⟨by omega, this.2⟩
    · rw [e4] at hb
      rw [e3]
      by_cases h1 : b = s.next
      · subst h1
        rw [if_pos rfl] at hb
        cases hb
        rw [hρ] at e
        cases e
        simpa [hro] using ho ρ' ext
      · rw [if_neg h1] at hb
        rw [hne b h1] at e
        exact (h.heap b o' hb M e).mono ext |>.of_block (blk _ (h.rng b M e).1)

theorem setLow_parts (s : AState) (l : Nat) : (setLow s l).next = s.next ∧ (setLow s l).heap = s.heap ∧ (setLow s l).ro = s.ro := by
  obtain ⟨hp, n, lw, ro⟩ := s
  exact ⟨rfl, rfl, rfl⟩

/-- What turned nothing old. -/
theorem Post.quiet {ρ' : Ren} (hw : WRel σ N0 w0 ρ s w) (hP : Post σ N0 w0 ρ (Am.setLow s big) w ρ' s' w') (hl : s.next ≤ s'.low) : Below w.heap.size w w' := by
  have h1 := hP.wrel.base
  have h2 := hw.base
  refine ⟨h1.os.trans h2.os.symm, h1.tape.trans h2.tape.symm, h1.output.trans h2.output.symm, hP.size, fun k hk => hP.frame k hk fun b L hb hl' => ?_⟩
  rw [(setLow_parts s big).1] at hb
  omega

theorem ORel.lits {ρ' : Ren} {L : Loc} {r : Bool} {cs : List AVal} {g : Bool} (hl : cs.all isLit = true) (h : ORel σ ρ L r w (.cells cs g)) : ORel σ ρ' L r w (.cells cs g) := by
  obtain ⟨h1, h2, h3⟩ := h
  refine ⟨fun j v hj => ?_, h2, h3⟩
  obtain ⟨u, hu, hv⟩ := h1 j v hj
  refine ⟨u, hu, ?_⟩
  have := List.all_eq_true.1 hl v (List.mem_of_getElem? hj)
  cases v <;> first | exact hv | cases this

theorem sumX_lit {next : Nat} {v : AVal} {v1 : Value} (h : sumX next (.val v) s = .ok (.lit v1)) : v = .lit v1 ∧ next ≤ s.low := by
  cases v with
  | lit v =>
    replace h : (bif Nat.ble next s.low then R.ok (XRes.lit v) else .fail "what is old is turned") = .ok (.lit v1) := h
    cases hq : Nat.ble next s.low with
    | false => rw [hq] at h; cases h
    | true => rw [hq] at h; cases h; exact ⟨rfl, Nat.le_of_ble_eq_true hq⟩
  | slice b o n cap =>
    unfold sumX at h
    simp only [] at h
    cases hq : (Nat.beq o 0 && (Nat.ble next s.low && Nat.ble next b)) with
    | false => rw [hq] at h; cases h
    | true =>
      rw [hq, cond_true] at h
      replace h := R.bind_ok' h
      obtain ⟨ob, _, h⟩ := h
      split at h
      · rename_i cs g h0
        cases hq2 : cs.all isLit with
        | false => rw [hq2] at h; cases h
        | true => rw [hq2] at h; cases h
      · cases h
  | _ => cases h

theorem sumX_row {next : Nat} {v : AVal} {n : Nat} {cap : ACap} {g : Bool} {cs : List AVal} (h : sumX next (.val v) s = .ok (.row n cap g cs)) :
    ∃ b, v = .slice b 0 n cap ∧ next ≤ s.low ∧ next ≤ b ∧ s.heap.get b = some (.cells cs g) ∧ cs.all isLit = true := by
  cases v with
  | lit v =>
    replace h : (bif Nat.ble next s.low then R.ok (XRes.lit v) else .fail "what is old is turned") = .ok (.row n cap g cs) := h
    cases hq : Nat.ble next s.low with
    | false => rw [hq] at h; cases h
    | true => rw [hq] at h; cases h
  | slice b o n' cap' =>
    unfold sumX at h
    simp only [] at h
    cases hq : (Nat.beq o 0 && (Nat.ble next s.low && Nat.ble next b)) with
    | false => rw [hq] at h; cases h
    | true =>
      rw [hq, cond_true] at h
      simp only [Bool.and_eq_true] at hq
      replace h := R.bind_ok' h
      obtain ⟨ob, ho, h⟩ := h
      split at h
      · rename_i cs' g'
        cases hq2 : cs'.all isLit with
        | false => rw [hq2] at h; cases h
        | true =>
          rw [hq2] at h
          cases h
          have := Nat.eq_of_beq_eq_true hq.1
          subst this
          exact ⟨b, rfl, Nat.le_of_ble_eq_true hq.2.1, Nat.le_of_ble_eq_true hq.2.2, get_ok ho, hq2⟩
      · cases h
  | _ => cases h

theorem exploreX_ok (hm : P.follows .mixedOrders = true) {prims : Prims} (hp : ∀ f p, prims f = some p → PrimOk P σ N0 w0 f p) {n : Nat} {f : FuncId} (hf : plainFn P f = true) : PrimOk P σ N0 w0 f (exploreX P prims n room f) := by
  refine ⟨fun args s v s' h => ?_, fun args s v s' h ρ w us hw hfr hv => ?_⟩
  · unfold exploreX at h
    replace h := R.bind_ok' h
    obtain ⟨r, _, h⟩ := h
    cases r with
    | lit v =>
      replace h := R.bind_ok' h
      obtain ⟨s1, h1, h⟩ := h
      cases h
      exact Abs.bump h1
    | row n cap g cs =>
      replace h := R.bind_ok' h
      obtain ⟨s1, h1, h⟩ := h
      replace h := R.bind_ok' h
      obtain ⟨s2, h2, h⟩ := h
      cases h
      exact (Abs.bump h1).trans (Abs.alloc h2)
  · unfold exploreX at h
    replace h := R.bind_ok' h
    obtain ⟨r, hr, h⟩ := h
    have hX := (runX_ok (M := Nat.add s.next room) (both := false) (by simp) hm (run_ok (facts := noFacts) hm noFacts_ok hp n) eqRes_ok hp n).call _ _ _ _ _ hr hf
    have hn := (setLow_parts s big).1
    have hroom : ∀ m, s.next + room ≤ m → Fresh ρ s.next m → Room (Nat.add s.next room) ρ (Am.setLow s big) := fun m hm hf => ⟨by rw [hn]; show s.next ≤ s.next + room; omega, by rw [hn]; exact hf.mono (Nat.le_refl _) hm⟩
    cases r with
    | lit v1 =>
      replace h := R.bind_ok' h
      obtain ⟨s1, h1, h⟩ := h
      cases h
      obtain ⟨b1, b2, b3, b4, b5⟩ := bump_ok h1
      refine (hX ρ w us (hw.setLow big) (hroom _ (by omega) hfr) hv).mono fun e w' ⟨v2, s2, hk, hM, u, ρ', he, hvu, hP⟩ => ?_
      replace hk : sumX s.next (.val v2) s2 = .ok (.lit v1) := hk
      obtain ⟨rfl, hlow⟩ := sumX_lit hk
      have hb := Post.quiet hw hP hlow
      refine ⟨u, ρ, he, hvu, ?_⟩
      have h2 := Post.bump hw h1
      exact h2.trans hfr (Post.wider h2.wrel hb.size hb.block ⟨hb.os, hb.tape, hb.output⟩)
    | row n1 cap g cs =>
      replace h := R.bind_ok' h
      obtain ⟨s1, h1, h⟩ := h
      replace h := R.bind_ok' h
      obtain ⟨s2, h2, h⟩ := h
      cases h
      obtain ⟨b1, b2, b3, b4, b5⟩ := bump_ok h1
      obtain ⟨⟨c1, c1'⟩, c2, c3, c4⟩ := alloc_ok h2
      refine (hX ρ w us (hw.setLow big) (hroom _ (by omega) hfr) hv).mono fun e w' ⟨v2, s3, hk, hM, u, ρ', he, hvu, hP⟩ => ?_
      replace hk : sumX s.next (.val v2) s3 = .ok (.row n1 cap g cs) := hk
      obtain ⟨b, rfl, hlow, hbn, hget, hlits⟩ := sumX_row hk
      have hb := Post.quiet hw hP hlow
      have hbM : b < s3.next := hP.wrel.dom b (by rw [hget]; simp)
      have hM' : s3.next ≤ s.next + room := hM
      have key : ∀ L, ρ' b = some L → w.heap.size ≤ L.blk ∧ L.blk < w'.heap.size ∧ ORel σ ρ' L true w' (.cells cs g) := fun L hL => by
        refine ⟨?_, (hP.wrel.rng b L hL).1, ?_⟩
        · rcases hP.new b L hL with h3 | ⟨_, _, h3 | ⟨b0, L0, g1, g2, _⟩⟩
          · rw [hfr b hbn (by omega)] at h3; cases h3
          · exact h3
          · rw [hn] at g1; omega
        · have := hP.wrel.heap b _ hget L hL
          have hro : s3.ro ≤ b := by rw [hP.ro, (setLow_parts s big).2.2]; have := hw.bnd; omega
          simpa [hro] using this
      have fin : ∀ L, ρ' b = some L → ∃ ρ'', ρ'' s1.next = some L ∧ Post σ N0 w0 ρ s w ρ'' s' w' := fun L hL => by
        obtain ⟨k1, k2, k3⟩ := key L hL
        have h3 := Post.bump hw h1
        obtain ⟨ρ'', g1, g2⟩ := Post.newAt h3.wrel hb h2 (hfr.mono (by omega) (Nat.le_refl _)) k1 k2 (fun ρ2 _ => k3.lits hlits)
        exact ⟨ρ'', g1, h3.trans (hfr.mono (Nat.le_refl _) (by omega)) g2⟩
      cases cap with
      | known k =>
        obtain ⟨L, hL, rfl⟩ := hvu
        obtain ⟨ρ'', g1, g2⟩ := fin L hL
        exact ⟨_, ρ'', he, ⟨L, g1, rfl⟩, g2⟩
      | grown k =>
        obtain ⟨L, kk, hL, rfl, hrest⟩ := hvu
        obtain ⟨ρ'', g1, g2⟩ := fin L hL
        exact ⟨_, ρ'', he, ⟨L, kk, g1, rfl, hrest⟩, g2⟩

end
end Go.Am
