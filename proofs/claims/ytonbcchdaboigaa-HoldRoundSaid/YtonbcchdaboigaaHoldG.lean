/-
  Package hold: Pages, Seen, Back, Gone, Out as contracts.
-/
import Derived.Test.YtonbcchdaboigaaHoldF
import Derived.BigRegion
namespace Go.Proofs.Ytonbcchdaboigaa
open Go Go.RowKit Go.Maps Go.Am Go.Shelf
set_option linter.unusedVariables false

theorem suchP_all (f : PgF) : suchP f (fun _ => true) = keysP f := by
  unfold suchP
  refine List.filter_eq_self.2 fun k hk => ?_
  have := (List.mem_filter.1 hk).2
  obtain ⟨r, hr⟩ := Option.isSome_iff_exists.1 this
  rw [hr]; rfl

set_option maxRecDepth 100000 in
set_option maxHeartbeats 2000000 in
theorem pages_calls (B g cap m n : Nat) (bs : Nat → Nat) (fs : Nat → PgF) (i : Nat) (w : World) (h : HoldAt w B g cap m n bs fs) (hi : i < m) (hm : m ≤ 1000) (hn : n ≤ 100000) :
    Calls Try.prog 27 #[.pointer (some ⟨B, 0, none⟩), .int .i64 i] w fun e w' => ∃ v, e = .returned v ∧ w'.ownsRow w.heap.size 3 1 v (keysP (fs i)).length ((keysP (fs i)).map (Value.int .i64)) ∧ GrowBut w w' [] := by
  have hS := such_calls B g cap m n bs fs i _ _ _ (enters_of Try.func83 (by kernel_rfl) rfl) w h hi hm hn (tells_pages w)
  rw [suchP_all] at hS
  go_enter Try.func27, Try.ntmps27
  go_wp2_with (first
    | (go_at_call 81; refine hS.mono ?_; rintro e w1 ⟨v, rfl, hrow, hg⟩)
    | go_in)
  go_ret
  exact ⟨_, rfl, hrow, hg⟩

set_option maxRecDepth 100000 in
set_option maxHeartbeats 2000000 in
theorem seen_calls (B g cap m n : Nat) (bs : Nat → Nat) (fs : Nat → PgF) (i : Nat) (w : World) (h : HoldAt w B g cap m n bs fs) (hi : i < m) (hm : m ≤ 1000) (hn : n ≤ 100000) :
    Calls Try.prog 26 #[.pointer (some ⟨B, 0, none⟩), .int .i64 i] w fun e w' => ∃ v, e = .returned v ∧ w'.ownsRow w.heap.size 3 1 v (suchP (fs i) fun r => !(r.state == 3)).length ((suchP (fs i) fun r => !(r.state == 3)).map (Value.int .i64)) ∧ GrowBut w w' [] := by
  have hS := such_calls B g cap m n bs fs i _ _ _ (enters_of Try.func82 (by kernel_rfl) rfl) w h hi hm hn (tells_seen w)
  go_enter Try.func26, Try.ntmps26
  go_wp2_with (first
    | (go_at_call 81; refine hS.mono ?_; rintro e w1 ⟨v, rfl, hrow, hg⟩)
    | go_in)
  go_ret
  exact ⟨_, rfl, hrow, hg⟩

set_option maxRecDepth 100000 in
set_option maxHeartbeats 2000000 in
theorem given_calls (B g cap m n : Nat) (bs : Nat → Nat) (fs : Nat → PgF) (i : Nat) (mark : Int) (w : World) (h : HoldAt w B g cap m n bs fs) (hi : i < m) (hm : m ≤ 1000) (hn : n ≤ 100000) :
    Calls Try.prog 86 #[.pointer (some ⟨B, 0, none⟩), .int .i64 i, .int .u64 mark] w fun e w' => ∃ v, e = .returned v ∧ w'.ownsRow w.heap.size 3 1 v (suchP (fs i) (givenB mark)).length ((suchP (fs i) (givenB mark)).map (Value.int .i64)) ∧ GrowBut w w' [] := by
  have hG := GrowBut.alloc w (.cells #[.int .u64 mark] 41) []
  have hX : (w.alloc (.cells #[.int .u64 mark] 41)).cell? ⟨w.heap.size, 0, none⟩ = some (.int .u64 mark) := by go_simp
  have hS := such_calls B g cap m n bs fs i _ _ _ (enters_of Try.func120 (by kernel_rfl) rfl) _ (h.kept hG (by simp) (by simp) (by simp)) hi hm hn (tells_given w.heap.size mark _ hX)
  have hsz := hG.size
  clear hX
  go_enter Try.func86, Try.ntmps86
  go_wp2_with (first
    | (go_at_call 81; refine hS.mono ?_; rintro e w1 ⟨v, rfl, hrow, hg⟩)
    | go_in)
  go_ret
  exact ⟨_, rfl, row_lower hrow hsz, hG.trans hg⟩

/-- Pages gone. -/
def awayF (f : PgF) (l : List Int) : PgF := fun k => if k ∈ l then none else f k

theorem awayF_snoc {f : PgF} {l : List Int} {x : Int} : delP (awayF f l) x = awayF f (l ++ [x]) := by
  funext k; unfold delP awayF
  by_cases e : k = x <;> simp [e]

/-- A row of pages of one's own. -/
def RowV (w : World) (s : Option Addr) (g : Nat) (zs : List Int) : Prop := 0 < zs.length → s = some ⟨g, 0, none⟩ ∧ g < w.heap.size ∧ ∀ i, i < zs.length → w.cell? ⟨g, i, none⟩ = some (.int .i64 (zs.getD i 0))

set_option maxRecDepth 100000 in
set_option maxHeartbeats 4000000 in
theorem away_calls (B g cap m n : Nat) (bs : Nat → Nat) (fs : Nat → PgF) (i : Nat) (s : Option Addr) (kg c : Nat) (zs : List Int) (w : World) (h : HoldAt w B g cap m n bs fs) (hi : i < m) (hm : m ≤ 1000) (hz : RowV w s kg zs) (hl : zs.length ≤ 3840) (hkb : 0 < zs.length → kg ≠ bs i) (hw : ∀ x ∈ zs, (Lit.int .i64 x).wf = true) :
    Calls Try.prog 84 #[.pointer (some ⟨B, 0, none⟩), .int .i64 i, .slice s zs.length c] w fun e w' => e = .returned (.slice s zs.length c) ∧ HoldAt w' B g cap m n bs (setF fs i (awayF (fs i) zs)) ∧ GrowBut w w' [bs i] := by
  have hT := h.tabs i hi
  have hc := h.cell
  have hmi := h.maps i hi
  have hne := h.neB i hi
  have hi' : (i : Int) < (m : Int) := by omega
  go_enter Try.func84, Try.ntmps84
  go_wp2_with fail
  have hTe : tabP (fs i) = tabP (awayF (fs i) (zs.take 0)) := by funext k; simp [awayF, tabP]
  rw [hTe] at hT
  clear hTe
  go_loopw [11] (fun v11 wx => ∃ j : Nat, v11 = .int .i64 j ∧ j ≤ zs.length ∧ TabAt wx .i64 3 (bs i) n (tabP (awayF (fs i) (zs.take j))) ∧ GrowBut w wx [bs i]) (fun v11 _ => zs.length - intN v11)
  case atStart => exact ⟨0, rfl, by omega, hT, .refl _ _⟩
  case round =>
    obtain ⟨j, rfl, hj, hTj, hG⟩ := hrel
    by_cases hlt : j < zs.length
    · have hlt' : (j : Int) < (zs.length : Int) := by omega
      obtain ⟨rfl, hkl, hcs⟩ := hz (by omega)
      have hkb' := hkb (by omega)
      have c0 := hG.cell (hcs j hlt) (by simpa using hkb')
      have k0 := hG.cell hc (by simpa using fun e => hne.1 e.symm)
      have k1 := hG.cell hmi (by simpa using fun e => hne.2 e.symm)
      have hwx := hw _ (getD_mem hlt)
      have hsn := tabP_del (awayF (fs i) (zs.take j)) (zs.getD j 0)
      rw [awayF_snoc, ← take_snoc hlt] at hsn
      clear hcs hz
      generalize zs.getD j 0 = x at c0 hwx hsn
      go_wp2_with (first
        | (at_delete; refine wpList_delT rfl _ _ 119 3 rfl hTj keyH Try.underlying3 Try.underlying119 rfl x rfl hwx ?_; intro w3 hT3 hg3; rw [hsn] at hT3)
        | fail)
      exact ⟨⟨j + 1, by simp, by omega, hT3, hG.trans hg3⟩, by simp [intN]; omega⟩
    · have hge : ¬ (j : Int) < (zs.length : Int) := by omega
      have hjl : j = zs.length := by omega
      subst hjl
      rw [List.take_length] at hTj
      go_wp2_with fail
      go_ret
      refine ⟨rfl, h.turned i hi hG hTj (Nat.le_refl _) (fun k r hk => ?_) (fun k r hk => ?_), hG⟩
      · unfold awayF at hk
        split at hk
        · cases hk
        · exact h.rng i hi k r hk
      · unfold awayF at hk
        split at hk
        · cases hk
        · exact h.wf i hi k r hk

theorem row_V {w : World} {base : Nat} {v : Value} {L : List Int} (hrow : w.ownsRow base 3 1 v L.length (L.map (Value.int .i64))) : ∃ s cap g, v = .slice s L.length cap ∧ RowV w s g L ∧ (0 < L.length → base ≤ g) := by
  obtain ⟨s, cap, g, rfl, h⟩ := row_open hrow rfl
  exact ⟨s, cap, g, rfl, fun h0 => ⟨(h h0).1, (h h0).2.2.1, (h h0).2.2.2⟩, fun h0 => (h h0).2.1⟩

theorem suchP_len (f : PgF) (p : PageR → Bool) : (suchP f p).length ≤ 3840 := Nat.le_trans (List.length_filter_le _ _) (keysP_len f)

theorem suchP_wf {f : PgF} {p : PageR → Bool} : ∀ x ∈ suchP f p, (Lit.int .i64 x).wf = true := by
  intro x hx
  have h1 := (List.mem_filter.1 hx).1
  unfold keysP at h1
  obtain ⟨k, hk, rfl⟩ := List.mem_map.1 (List.mem_filter.1 h1).1
  have := List.mem_range.1 hk
  exact wf_small (by omega) (by omega)

/-- What is handed back is a row whose numbers are those. -/
def Gives (w w' : World) (e : Ending) (L : List Int) : Prop := ∃ s cap g, e = .returned (.slice s L.length cap) ∧ (0 < L.length → s = some ⟨g, 0, none⟩ ∧ w.heap.size ≤ g ∧ g < w'.heap.size ∧ ∀ i, i < L.length → w'.cell? ⟨g, i, none⟩ = some (.int .i64 (L.getD i 0)))

theorem RowV.kept {w w' : World} {s : Option Addr} {g : Nat} {zs : List Int} {l : List Nat} (h : RowV w s g zs) (hg : GrowBut w w' l) (hn : 0 < zs.length → g ∉ l) : RowV w' s g zs := fun h0 => by
  obtain ⟨h1, h2, h3⟩ := h h0
  exact ⟨h1, Nat.lt_of_lt_of_le h2 hg.size, fun i hi => hg.cell (h3 i hi) (hn h0)⟩

theorem gives_of {w w' : World} {s : Option Addr} {g c : Nat} {L : List Int} (h : RowV w' s g L) (hb : 0 < L.length → w.heap.size ≤ g) : Gives w w' (.returned (.slice s L.length c)) L :=
  ⟨s, c, g, rfl, fun h0 => ⟨(h h0).1, hb h0, (h h0).2.1, (h h0).2.2⟩⟩

set_option maxRecDepth 100000 in
set_option maxHeartbeats 2000000 in
theorem out_calls (B g cap m n : Nat) (bs : Nat → Nat) (fs : Nat → PgF) (i : Nat) (mark : Int) (w : World) (h : HoldAt w B g cap m n bs fs) (hi : i < m) (hm : m ≤ 1000) (hn : n ≤ 100000) :
    Calls Try.prog 28 #[.pointer (some ⟨B, 0, none⟩), .int .i64 i, .int .u64 mark] w fun e w' => Gives w w' e (suchP (fs i) (borrowedB mark)) ∧ HoldAt w' B g cap m n bs (setF fs i (awayF (fs i) (suchP (fs i) (borrowedB mark)))) ∧ GrowBut w w' [bs i] := by
  have hG := GrowBut.alloc w (.cells #[.int .u64 mark] 41) []
  have hX : (w.alloc (.cells #[.int .u64 mark] 41)).cell? ⟨w.heap.size, 0, none⟩ = some (.int .u64 mark) := by go_simp
  have h1 := h.kept hG (by simp) (by simp) (by simp)
  have hS := such_calls B g cap m n bs fs i _ _ _ (enters_of Try.func85 (by kernel_rfl) rfl) _ h1 hi hm hn (tells_out w.heap.size mark _ hX)
  have hsz := hG.size
  have hbl := (h.tabs i hi).blt
  clear hX
  have hlen := suchP_len (fs i) (borrowedB mark)
  have hwf := suchP_wf (f := fs i) (p := borrowedB mark)
  generalize suchP (fs i) (borrowedB mark) = L at hS hlen hwf ⊢
  go_enter Try.func28, Try.ntmps28
  go_wp2_with (first
    | (go_at_call 81; refine hS.mono ?_; rintro e w1 ⟨v, rfl, hrow, hg⟩; obtain ⟨s, cp, kg, rfl, hV, hb⟩ := row_V hrow; have hA := away_calls B g cap m n bs fs i s kg cp L w1 (h1.kept hg (by simp) (by simp) (by simp)) hi hm hV hlen (fun h0 => by have := hb h0; omega) hwf)
    | (go_at_call 84; refine hA.mono ?_; rintro e w2 ⟨rfl, hH2, hg2⟩)
    | go_in)
  go_ret
  exact ⟨gives_of (hV.kept hg2 (fun h0 => by have := hb h0; simp; omega)) (fun h0 => by have := hb h0; omega), hH2, ((hG.trans hg).mono (by simp)).trans hg2⟩

set_option maxRecDepth 100000 in
set_option maxHeartbeats 2000000 in
theorem gone_calls (B g cap m n : Nat) (bs : Nat → Nat) (fs : Nat → PgF) (i : Nat) (mark : Int) (w : World) (h : HoldAt w B g cap m n bs fs) (hi : i < m) (hm : m ≤ 1000) (hn : n ≤ 100000) :
    Calls Try.prog 35 #[.pointer (some ⟨B, 0, none⟩), .int .i64 i, .int .u64 mark] w fun e w' => Gives w w' e (suchP (fs i) (givenB mark)) ∧ HoldAt w' B g cap m n bs (setF fs i (awayF (fs i) (suchP (fs i) (givenB mark)))) ∧ GrowBut w w' [bs i] := by
  have hS := given_calls B g cap m n bs fs i mark w h hi hm hn
  have hbl := (h.tabs i hi).blt
  have hlen := suchP_len (fs i) (givenB mark)
  have hwf := suchP_wf (f := fs i) (p := givenB mark)
  generalize suchP (fs i) (givenB mark) = L at hS hlen hwf ⊢
  go_enter Try.func35, Try.ntmps35
  go_wp2_with (first
    | (go_at_call 86; refine hS.mono ?_; rintro e w1 ⟨v, rfl, hrow, hg⟩; obtain ⟨s, cp, kg, rfl, hV, hb⟩ := row_V hrow; have hA := away_calls B g cap m n bs fs i s kg cp L w1 (h.kept hg (by simp) (by simp) (by simp)) hi hm hV hlen (fun h0 => by have := hb h0; omega) hwf)
    | (go_at_call 84; refine hA.mono ?_; rintro e w2 ⟨rfl, hH2, hg2⟩)
    | go_in)
  go_ret
  exact ⟨gives_of (hV.kept hg2 (fun h0 => by have := hb h0; simp; omega)) (fun h0 => by have := hb h0; omega), hH2, (hg.mono (by simp)).trans hg2⟩

set_option maxRecDepth 100000 in
set_option maxHeartbeats 4000000 in
theorem back_calls (B g cap m n : Nat) (bs : Nat → Nat) (fs : Nat → PgF) (i : Nat) (mark : Int) (w : World) (h : HoldAt w B g cap m n bs fs) (hi : i < m) (hm : m ≤ 1000) (hn : n ≤ 100000) :
    Calls Try.prog 29 #[.pointer (some ⟨B, 0, none⟩), .int .i64 i, .int .u64 mark] w fun e w' => Gives w w' e (suchP (fs i) (givenB mark)) ∧ HoldAt w' B g cap m (n + (suchP (fs i) (givenB mark)).length) bs (setF fs i (giveF (fs i) (suchP (fs i) (givenB mark)) 1 0)) ∧ GrowBut w w' [bs i] := by
  have hS := given_calls B g cap m n bs fs i mark w h hi hm hn
  have hbl := (h.tabs i hi).blt
  have hlen := suchP_len (fs i) (givenB mark)
  have hwf := suchP_wf (f := fs i) (p := givenB mark)
  have hin : ∀ x ∈ suchP (fs i) (givenB mark), ∃ r, fs i x = some r := fun x hx => by
    have h1 := (List.mem_filter.1 (List.mem_filter.1 hx).1).2
    exact Option.isSome_iff_exists.1 h1
  have hnd : (suchP (fs i) (givenB mark)).Nodup := by
    refine (List.Pairwise.filter _ (keysP_rises (fs i))).imp fun h => ?_
    omega
  generalize suchP (fs i) (givenB mark) = L at hS hlen hwf hin hnd ⊢
  go_enter Try.func29, Try.ntmps29
  go_wp2_with (first
    | (go_at_call 86; refine hS.mono ?_; rintro e w1 ⟨v, rfl, hrow, hg⟩; obtain ⟨s, cp, kg, rfl, hV, hb⟩ := row_V hrow)
    | go_in)
  have hT := (h.tabs i hi).kept hg (by simp)
  have hc := hg.cell h.cell (by simp)
  have hmi := hg.cell (h.maps i hi) (by simp)
  have hne := h.neB i hi
  have hi' : (i : Int) < (m : Int) := by omega
  have hTe : tabP (fs i) = tabP (giveF (fs i) (L.take 0) 1 0) := by funext k; simp [giveF, tabP]
  have hT0 : TabAt w1 .i64 3 (bs i) (n + 0) (tabP (giveF (fs i) (L.take 0) 1 0)) := by rw [← hTe]; exact hT
  clear hTe hrow hS hT
  go_loopw [17] (fun v17 wx => ∃ j : Nat, v17 = .int .i64 j ∧ j ≤ L.length ∧ TabAt wx .i64 3 (bs i) (n + j) (tabP (giveF (fs i) (L.take j) 1 0)) ∧ GrowBut w1 wx [bs i]) (fun v17 _ => L.length - intN v17)
  case atStart => exact ⟨0, rfl, by omega, hT0, .refl _ _⟩
  case round =>
    obtain ⟨j, rfl, hj, hTj, hG⟩ := hrel
    by_cases hlt : j < L.length
    · have hlt' : (j : Int) < (L.length : Int) := by omega
      obtain ⟨rfl, hkl, hcs⟩ := hV (by omega)
      have hkb := hb (by omega)
      have c0 := hG.cell (hcs j hlt) (by simp; omega)
      have k0 := hG.cell hc (by simpa using fun e => hne.1 e.symm)
      have k1 := hG.cell hmi (by simpa using fun e => hne.2 e.symm)
      have hwx := hwf _ (getD_mem hlt)
      obtain ⟨r, hr⟩ := hin _ (getD_mem hlt)
      have hlk := hTj.look (t := 119) (e := 46) keyH Try.underlying3 Try.underlying119 (zeroP _) hwx
      have hgv : giveF (fs i) (L.take j) 1 0 (L.getD j 0) = some r := by unfold giveF; rw [if_neg (not_mem_take hnd hlt), hr]
      rw [(tab_val _ _).1, hgv] at hlk
      have hsn := tabP_put (giveF (fs i) (L.take j) 1 0) (L.getD j 0) ⟨r.frame, r.perm, 1, 0⟩
      rw [giveF_snoc hr, ← take_snoc hlt] at hsn
      have hka := hG.trans (GrowBut.alloc wr (.cells #[.int .i64 r.frame, .int .i64 r.perm, .int .i64 1, .int .u64 0] 46) _)
      have k0' := hka.cell hc (by simpa using fun e => hne.1 e.symm)
      have k1' := hka.cell hmi (by simpa using fun e => hne.2 e.symm)
      clear hgv hr hcs hV hka
      generalize L.getD j 0 = x at c0 hlk hsn hwx
      obtain ⟨rf, rp, rs, rm⟩ := r
      simp only [encP, Option.getD_some] at hlk hsn
      go_upto_region 7 with fail
      have b0 : (wr.alloc (.cells #[.int .i64 rf, .int .i64 rp, .int .i64 1, .int .u64 0] 46)).drew.cell? ⟨wr.heap.size, 0, none⟩ = some (.int .i64 rf) := by go_simp
      have b1 : (wr.alloc (.cells #[.int .i64 rf, .int .i64 rp, .int .i64 1, .int .u64 0] 46)).drew.cell? ⟨wr.heap.size, 1, none⟩ = some (.int .i64 rp) := by go_simp
      have b2 : (wr.alloc (.cells #[.int .i64 rf, .int .i64 rp, .int .i64 1, .int .u64 0] 46)).drew.cell? ⟨wr.heap.size, 2, none⟩ = some (.int .i64 1) := by go_simp
      have b3 : (wr.alloc (.cells #[.int .i64 rf, .int .i64 rp, .int .i64 1, .int .u64 0] 46)).drew.cell? ⟨wr.heap.size, 3, none⟩ = some (.int .u64 0) := by go_simp
      have hGd := (GrowBut.alloc wr (.cells #[.int .i64 rf, .int .i64 rp, .int .i64 1, .int .u64 0] 46) []).trans (GrowBut.drew _ [])
      have hTd := hTj.kept hGd (by simp)
      have k0'' : (wr.alloc (.cells #[.int .i64 rf, .int .i64 rp, .int .i64 1, .int .u64 0] 46)).drew.cell? _ = _ := k0'
      have k1'' : (wr.alloc (.cells #[.int .i64 rf, .int .i64 rp, .int .i64 1, .int .u64 0] 46)).drew.cell? _ = _ := k1'
      obtain ⟨w3, hrun, hT3, hg3, _⟩ := hTd.upd (t := 119) (e := 46) keyH Try.underlying3 Try.underlying119 (by omega) hwx (.agg #[.int .i64 rf, .int .i64 rp, .int .i64 1, .int .u64 0])
      rw [hsn] at hT3
      go_region
      go_wp2_with fail
      exact ⟨⟨j + 1, by simp, by omega, hT3, hG.trans ((hGd.mono (by simp)).trans hg3)⟩, by simp [intN]; omega⟩
    · have hge : ¬ (j : Int) < (L.length : Int) := by omega
      have hjl : j = L.length := by omega
      subst hjl
      rw [List.take_length] at hTj
      go_wp2_with fail
      go_ret
      have hG' : GrowBut w wr [bs i] := (hg.mono (by simp)).trans hG
      refine ⟨gives_of (hV.kept hG (fun h0 => by have := hb h0; simp; omega)) hb, h.turned i hi hG' hTj (by omega) (fun k r hk => ?_) (fun k r hk => ?_), hG'⟩
      · unfold giveF at hk
        split at hk
        · obtain ⟨r', hr', rfl⟩ := Option.map_eq_some_iff.1 hk
          exact h.rng i hi k r' hr'
        · exact h.rng i hi k r hk
      · unfold giveF at hk
        split at hk
        · obtain ⟨r', hr', rfl⟩ := Option.map_eq_some_iff.1 hk
          have hw' := h.wf i hi k r' hr'
          exact ⟨hw'.1, hw'.2.1, (show (Lit.int .i64 1).wf = true by decide), (show (Lit.int .u64 0).wf = true by decide)⟩
        · exact h.wf i hi k r hk

end Go.Proofs.Ytonbcchdaboigaa
