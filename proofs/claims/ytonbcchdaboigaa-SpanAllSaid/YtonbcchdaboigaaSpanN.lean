/-
  Package span: Meets of any rows.
-/
import Derived.Test.YtonbcchdaboigaaRefSpan2
import Derived.Shelf.SlicesE.IndexFunc
import Derived.Shelf.Slices.Turned
import Derived.Shelf.Lay
import Derived.Ground.NamesProg
import Derived.Ground.SlgfProg
namespace Go.Proofs.Ytonbcchdaboigaa
open Go Go.RowKit Go.Maps Go.Am Go.Shelf
set_option linter.unusedVariables false

shelf_lay Lays.n107 Nm 107 at Try as Try.containsL
shelf_lay_g SlLaysH.n8 Slgf 8 at Try 77 as Try.containsF

set_option maxRecDepth 100000 in
set_option maxHeartbeats 4000000 in
theorem meetsN_fn (Yb : Nat) (sb : Option Addr) (gb cb : Nat) (Y : List Int) (hd : Y.length ≤ 1000000) (w : World) (hY : w.cell? ⟨Yb, 0, none⟩ = some (.slice sb Y.length cb)) (hV : 0 < Y.length → sb = some ⟨gb, 0, none⟩ ∧ ∀ i, i < Y.length → w.cell? ⟨gb, i, none⟩ = some (.int .i64 (Y.getD i 0))) :
    PredAt Try.prog 78 #[.pointer (some ⟨Yb, 0, none⟩)] (Value.int .i64) (fun x : Int => Y.contains x) w := by
  intro W x hW
  have hG : GrowBut w W [] := .of_below hW
  have hY' := hG.cell hY (by simp)
  have hcs : Calls Try.prog 79 #[.slice sb Y.length cb, .int .i64 x] W fun e w' => e = .returned (.bool (Y.contains x)) ∧ w' = W := by
    rcases Nat.eq_zero_or_pos Y.length with h0 | h0
    · have : Y = [] := List.length_eq_zero_iff.1 h0
      subst this
      exact Any.slices_Contains_int_empty Try.containsL sb cb x W
    · obtain ⟨rfl, hc⟩ := hV h0
      have h := Any.slices_Contains_int Try.containsL gb 0 Y.length cb Y x W (Nat.le_refl _) (by omega) (fun j hj => by rw [Nat.zero_add]; exact hG.cell (hc j hj) (by simp))
      rwa [List.take_length] at h
  show Calls Try.prog 78 #[.int .i64 x, .pointer (some ⟨Yb, 0, none⟩)] W _
  generalize hans : Y.contains x = ans at hcs
  go_enter Try.func78, Try.ntmps78
  go_wp2_with (first
    | (go_at_call 79; refine hcs.mono ?_; rintro e w1 ⟨rfl, hw1⟩; rw [hw1]; clear hw1 w1)
    | go_in)
  go_ret
  subst hans
  exact ⟨rfl, 0, rfl⟩

set_option maxRecDepth 100000 in
set_option maxHeartbeats 4000000 in
theorem MeetsT_calls (s1 s2 : Option Addr) (b1 b2 o1 o2 c1 c2 : Nat) (l m : List (Int × Int)) (w : World) (h1 : SpansIn w s1 b1 o1 l) (h2 : SpansIn w s2 b2 o2 m) (hl : l.length ≤ 100000) (hm : m.length ≤ 100000) :
    Calls Try.prog 20 #[.slice s1 l.length c1, .slice s2 m.length c2] w fun e w' => e = .returned (.bool (meetsP ((pagesT l).getD []) ((pagesT m).getD []))) ∧ GrowBut w w' [] := by
  have hA := PagesT_calls s1 b1 o1 c1 l w h1 hl
  have hB := fun w1 (hg : GrowBut w w1 []) => PagesT_calls s2 b2 o2 c2 m w1 (h2.kept hg (by simp)) hm
  have hlenX : ((pagesT l).getD []).length ≤ 1000000 := pagesT_len l
  have hlenY : ((pagesT m).getD []).length ≤ 1000000 := pagesT_len m
  obtain ⟨X, hX⟩ : ∃ X, (pagesT l).getD [] = X := ⟨_, rfl⟩
  obtain ⟨Y, hY⟩ : ∃ Y, (pagesT m).getD [] = Y := ⟨_, rfl⟩
  rw [hX] at hA hlenX ⊢
  rw [hY] at hB hlenY ⊢
  clear hX hY
  go_enter Try.func20, Try.ntmps20
  go_upto_region 2 with (first
    | (go_at_call 15; refine hA.mono ?_; clear hA; rintro e wa ⟨va, rfl, hga, hrowa⟩; have hB1 := hB wa hga; obtain ⟨sa, ca, ga, rfl, hVa⟩ := rowI_open hrowa)
    | (go_at_call 15; refine hB1.mono ?_; clear hB1; rintro e wb ⟨vb, rfl, hgb, hrowb⟩; obtain ⟨sb, cb, gb, rfl, hVb⟩ := rowI_open hrowb)
    | go_in)
  clear hB
  have hG3 := GrowBut.alloc wb (.cells #[.slice sb Y.length cb] 23) []
  have hbox : (wb.alloc (.cells #[.slice sb Y.length cb] 23)).cell? ⟨wb.heap.size, 0, none⟩ = some (.slice sb Y.length cb) := by go_simp
  have hpred := meetsN_fn wb.heap.size sb gb cb Y hlenY (wb.alloc (.cells #[.slice sb Y.length cb] 23)) hbox (fun h0 => ⟨(hVb h0).1, fun i hi => hG3.cell ((hVb h0).2 i hi) (by simp)⟩)
  have hcf : Calls Try.prog 77 #[.slice sa X.length ca, .func (.func 78) #[] #[.pointer (some ⟨wb.heap.size, 0, none⟩)]] (wb.alloc (.cells #[.slice sb Y.length cb] 23)) fun e w' => e = .returned (.bool (meetsP X Y)) ∧ ∃ q, w' = (wb.alloc (.cells #[.slice sb Y.length cb] 23)).drewN q := by
    rcases Nat.eq_zero_or_pos X.length with h0 | h0
    · have : X = [] := List.length_eq_zero_iff.1 h0
      subst this
      refine (AnyE.slices_ContainsFunc_empty Try.containsF sa ca _ _).mono ?_
      rintro e w' ⟨rfl, rfl⟩
      exact ⟨rfl, 0, rfl⟩
    · obtain ⟨rfl, hc⟩ := hVa h0
      have h := AnyE.slices_ContainsFunc Try.containsF (Value.int .i64) (fun x : Int => Y.contains x) 78 #[.pointer (some ⟨wb.heap.size, 0, none⟩)] (enters_of Try.func78 (by kernel_rfl) rfl) ga 0 X.length ca X _ hpred (Nat.le_refl _) (by omega) (fun j hj => by
        have := hG3.cell (hgb.cell (hc j hj) (by simp)) (by simp)
        rw [Nat.zero_add, this]
        rw [List.getD_eq_getElem?_getD, List.getElem!_eq_getElem?_getD]
        rfl)
      rwa [List.take_length] at h
  clear hbox hpred
  generalize hans : meetsP X Y = ans at hcf
  go_wp2_with (first
    | (go_at_call 77; refine hcf.mono ?_; rintro r w4 ⟨rfl, qq, rfl⟩)
    | go_in)
  go_ret
  subst hans
  exact ⟨rfl, (hga.trans (hgb.trans hG3)).trans (GrowBut.drewN _ _ _)⟩

end Go.Proofs.Ytonbcchdaboigaa
