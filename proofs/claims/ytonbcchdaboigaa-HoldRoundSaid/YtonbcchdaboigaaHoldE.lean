/-
  Package hold: pages of some kind, rising.
-/
import Derived.Test.YtonbcchdaboigaaHoldD
import Derived.Test.YtonbcchdaboigaaTabS
import Derived.Lib.SlBy
namespace Go.Proofs.Ytonbcchdaboigaa
open Go Go.RowKit Go.Maps Go.Am Go.Shelf
set_option linter.unusedVariables false

/-- The pages that there are, rising. -/
def keysP (f : PgF) : List Int := ((List.range 3840).map fun k : Nat => (k : Int)).filter fun k => (f k).isSome

theorem keysP_rises (f : PgF) : (keysP f).Pairwise (· < ·) := by
  unfold keysP
  refine List.Pairwise.filter _ (List.pairwise_map.2 (List.pairwise_lt_range.imp fun h => ?_))
  omega

theorem mem_keysP {f : PgF} (h : ∀ k r, f k = some r → 0 ≤ k ∧ k < 3840) {k : Int} : k ∈ keysP f ↔ (f k).isSome = true := by
  unfold keysP
  rw [List.mem_filter, List.mem_map]
  constructor
  · exact fun h => h.2
  · intro hk
    refine ⟨?_, hk⟩
    obtain ⟨r, hr⟩ := Option.isSome_iff_exists.1 hk
    have := h k r hr
    exact ⟨k.toNat, List.mem_range.2 (by omega), by omega⟩

theorem keysP_len (f : PgF) : (keysP f).length ≤ 3840 := by
  unfold keysP
  refine Nat.le_trans (List.length_filter_le _ _) ?_
  simp

/-- The pages of some kind. -/
def suchP (f : PgF) (p : PageR → Bool) : List Int := (keysP f).filter fun k => (f k).any p

theorem tabP_some {f : PgF} {k : Int} : (tabP f k).isSome = (f k).isSome := by unfold tabP; cases f k <;> simp

theorem infoI : (Try.prog.info? 3).map (fun i => (i.zero, i.size, i.bytes)) = some (some (.int .i64 0), 1, 8) := by kernel_rfl

theorem GrowBut.of_rowI {a b : World} {o : Option Nat} (h : a.grownBy b o) : GrowBut a b o.toList :=
  ⟨h.os, h.tape, h.output, h.size, fun j hj hn => h.block j hj (fun e => hn (by rw [← e]; simp))⟩

theorem row_open {w : World} {base k : Nat} {v : Value} {L : List Int} (hrow : w.ownsRow base 3 1 v k (L.map (Value.int .i64))) (hk : L.length = k) : ∃ s cap g, v = .slice s k cap ∧ (0 < k → s = some ⟨g, 0, none⟩ ∧ base ≤ g ∧ g < w.heap.size ∧ ∀ i, i < k → w.cell? ⟨g, i, none⟩ = some (.int .i64 (L.getD i 0))) := by
  rcases hrow.2 with ⟨rfl, hz⟩ | ⟨g, cap, cur, rfl, hbase, hb, h1, h2, h3, h4⟩
  · exact ⟨none, 0, 0, by rw [hz], fun h => by omega⟩
  · refine ⟨some ⟨g, 0, none⟩, cap, g, rfl, fun h0 => ⟨rfl, hbase, (Array.getElem?_eq_some_iff.1 hb).1, fun i hi => ?_⟩⟩
    have h5 : (cur.toList.take (k * 1))[i]? = (L.map (Value.int .i64))[i]? := by rw [h4]
    rw [List.getElem?_take_of_lt (by omega), List.getElem?_map] at h5
    have h6 : L[i]? = some (L.getD i 0) := by rw [List.getD_eq_getElem?_getD, List.getElem?_eq_getElem (by omega)]; rfl
    rw [h6] at h5
    simp only [World.cell?, hb]
    simpa using h5

theorem row_lower {w : World} {base base' : Nat} {e : TypeId} {size n : Nat} {v : Value} {xs : List Value} (h : w.ownsRow base e size v n xs) (hb : base' ≤ base) : w.ownsRow base' e size v n xs := by
  refine ⟨h.1, ?_⟩
  rcases h.2 with h1 | ⟨g, cap, cur, rfl, hbase, r⟩
  · exact .inl h1
  · exact .inr ⟨g, cap, cur, rfl, by omega, r⟩

/-- A function value that tells of a page. -/
def Tells (fn : Nat) (lb : Array Value) (p : PageR → Bool) (w : World) : Prop := ∀ w1 r, GrowBut w w1 [] → Calls Try.prog fn (#[encP r] ++ lb) w1 fun e w2 => e = .returned (.bool (p r)) ∧ GrowBut w1 w2 []

set_option maxRecDepth 100000 in
set_option maxHeartbeats 4000000 in
theorem such_calls (B g cap m n : Nat) (bs : Nat → Nat) (fs : Nat → PgF) (i : Nat) (fn : Nat) (lb : Array Value) (p : PageR → Bool) (eg : ∀ args w, (callFunc fn args).run Try.prog w = .ok (.enter fn args) w) (w : World) (h : HoldAt w B g cap m n bs fs) (hi : i < m) (hm : m ≤ 1000) (hn : n ≤ 100000) (hp : Tells fn lb p w) :
    Calls Try.prog 81 #[.pointer (some ⟨B, 0, none⟩), .int .i64 i, .func (.func fn) #[] lb] w fun e w' => ∃ v, e = .returned v ∧ w'.ownsRow w.heap.size 3 1 v (suchP (fs i) p).length ((suchP (fs i) p).map (Value.int .i64)) ∧ GrowBut w w' [] := by
  have hO := of_in B g cap m n bs fs i w h hi hm
  have hT := h.tabs i hi
  have hK := keys_calls (some (bs i)) w
  have hG1 := GrowBut.alloc w (.cells #[.map (some (bs i))] 119) []
  have hc1 : (w.alloc (.cells #[.map (some (bs i))] 119)).cell? ⟨w.heap.size, 0, none⟩ = some (.map (some (bs i))) := by go_simp
  have hS := sortedT w.heap.size (bs i) n (tabP (fs i)) (keysP (fs i)) _ hc1 (hT.kept hG1 (by simp)) (by omega) (keysP_rises _) (fun x => by rw [tabP_some]; exact mem_keysP (h.rng i hi))
  clear hc1
  have hkl := keysP_len (fs i)
  have hkr : ∀ k, k ∈ keysP (fs i) ↔ (fs i k).isSome = true := fun k => mem_keysP (h.rng i hi)
  have hkw : ∀ x ∈ keysP (fs i), (Lit.int .i64 x).wf = true := fun x hx => by
    obtain ⟨r, hr⟩ := Option.isSome_iff_exists.1 ((hkr _).1 hx)
    have := h.rng i hi x r hr
    exact wf_small (by omega) (by omega)
  unfold suchP
  generalize keysP (fs i) = L at hS hkl hkr hkw ⊢
  obtain ⟨i0, hi0, hz0, hz1, hz2⟩ := info_parts infoI
  have hz := zeroP
  go_enter Try.func81, Try.ntmps81
  go_wp2_with (first
    | (go_at_call 80; refine hO.mono ?_; rintro e w1 ⟨rfl, hw1⟩; rw [hw1]; clear hw1 w1)
    | (go_at_call 119; refine hK.mono ?_; rintro e w1 ⟨rfl, hw1⟩; rw [hw1]; clear hw1 w1)
    | (go_at_call 105; refine hS.mono ?_; rintro e w1 ⟨v, rfl, hrow, hg⟩; obtain ⟨s, cap, kg, rfl, hopen⟩ := row_open hrow rfl)
    | go_in)
  have hG := hG1.trans hg
  clear hS hK hO hrow
  have hws := hG.size
  have hL0 := World.ownsRow_nil w1 w1.heap.size 3 1
  go_loopw [6, 17] (fun v6 v17 wx => ∃ j : Nat, v17 = .int .i64 j ∧ j ≤ L.length ∧ wx.ownsRow w1.heap.size 3 1 v6 ((L.take j).filter fun k => (fs i k).any p).length (((L.take j).filter fun k => (fs i k).any p).map (Value.int .i64)) ∧ GrowBut w1 wx []) (fun _ v17 _ => L.length - intN v17)
  case atStart => exact ⟨0, rfl, by omega, hL0, .refl _ _⟩
  case round =>
    obtain ⟨j, rfl, hj, hrow, hgx⟩ := hrel
    by_cases hlt : j < L.length
    · have hlt' : (j : Int) < (L.length : Int) := by omega
      obtain ⟨rfl, _, hkg, hcs⟩ := hopen (by omega)
      have c0 := hgx.cell (hcs j hlt) (by simp)
      have hx := getD_mem hlt
      have hwx := hkw _ hx
      obtain ⟨r, hr⟩ := Option.isSome_iff_exists.1 ((hkr _).1 hx)
      have hlk := (hT.kept (hG.trans hgx) (by simp)).look (t := 119) (e := 46) keyH Try.underlying3 Try.underlying119 (zeroP _) hwx
      rw [(tab_val _ _).1, hr, Option.getD_some] at hlk
      have htk := take_snoc hlt
      have hcall := hp wr r (hG.trans hgx)
      have hfil : (L.take (j + 1)).filter (fun k => (fs i k).any p) = (L.take j).filter (fun k => (fs i k).any p) ++ (if p r then [L.getD j 0] else []) := by
        rw [htk, List.filter_append]
        congr 1
        simp only [List.filter_cons, List.filter_nil, hr, Option.any_some]
      have hll : ((L.take j).filter fun k => (fs i k).any p).length ≤ 3840 := Nat.le_trans (List.length_filter_le _ _) (by rw [List.length_take]; omega)
      clear hcs hopen hr hx hkw hkr htk
      generalize (L.take j).filter (fun k => (fs i k).any p) = M at hrow hfil hll
      generalize L.getD j 0 = x at c0 hwx hlk hfil
      generalize encP r = pr at hlk hcall
      cases hpr : p r with
      | true =>
        rw [hpr] at hcall hfil
        simp only [if_true] at hfil
        go_wp2_with (first
          | (go_at_fn fn; refine hcall.mono ?_; rintro e w2 ⟨rfl, hg2⟩; have hrow2 := hg2.row hrow (by simp); have hs2 := (hgx.trans hg2).size)
          | (at_builtin; refine wpList_append_own _ rfl _ _ 23 rfl w1.heap.size 3 i0 (.int .i64 0) 1 8 Try.underlying23 hi0 hz0 hz1 hz2 rfl (by decide) _ _ _ rfl (hrow2.alloc _) ⟨w2.heap.size, 0, none⟩ 1 1 [.int .i64 x] rfl rfl (cell_one_new _ _ _) (by simp [Value.oneCell']) (by unfold maxLen at *; omega) (by omega) (by simp; omega) ?_; intro v' w4 hown4 hg4 hnil4; go_frame)
          | fail)
        have hoth : ∀ x ∈ u6.ownBlock.toList, w1.heap.size ≤ x := fun x hx => (hrow2.lt x (by simpa using hx)).1
        have hG4 := (GrowBut.alloc w2 (.cells #[.int .i64 x] 3) _).trans (GrowBut.of_rowI (o := u6.ownBlock) hg4)
        refine ⟨⟨j + 1, by simp, by omega, by rw [hfil, List.length_append, List.map_append]; exact hown4, (hgx.trans hg2).from hG4 (fun x hx => .inr (hoth x hx))⟩, by simp [intN]; omega⟩
      | false =>
        rw [hpr] at hcall hfil
        simp only [Bool.false_eq_true, if_false, List.append_nil] at hfil
        go_wp2_with (first
          | (go_at_fn fn; refine hcall.mono ?_; rintro e w2 ⟨rfl, hg2⟩; have hrow2 := hg2.row hrow (by simp))
          | fail)
        exact ⟨⟨j + 1, by simp, by omega, by rw [hfil]; exact hrow2, hgx.trans hg2⟩, by simp [intN]; omega⟩
    · have hge : ¬ (j : Int) < (L.length : Int) := by omega
      have hjl : j = L.length := by omega
      subst hjl
      rw [List.take_length] at hrow
      go_wp2_with fail
      go_ret
      exact ⟨_, rfl, row_lower hrow hws, hG.trans hgx⟩

end Go.Proofs.Ytonbcchdaboigaa
