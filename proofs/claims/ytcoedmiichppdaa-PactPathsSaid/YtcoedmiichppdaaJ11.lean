/-
  The sorted keys of a set, as the rising list of them.
-/
import Derived.Test.YtcoedmiichppdaaJ5
import Derived.Test.YtcoedmiichppdaaJ10
import Derived.Shelf.Lay
import Derived.Shelf.SlIterI.Nil
import Derived.Shelf.SortM.Plain
import Derived.Shelf.SortM.SortNone
import Derived.Ground.GgzProg
import Derived.Ground.SlgmProg
import Derived.Deep.RegionHeld3
import Derived.BigQuiet
import Derived.BigRegion

namespace Go.Proofs.Ytcoedmiichppdaa
open Go Go.RowKit Go.Maps Go.Sort Go.Shelf Go.Am
set_option linter.unusedVariables false
set_option linter.unusedSimpArgs false

shelf_lay_g SlLaysZI.n7 Ggz 7 at Try 84 as Try.keysBP
shelf_lay_g SlLaysZI.n6 Ggz 6 at Try 83 as Try.sortedBP
shelf_lay_g SlLaysM.n5 Slgm 5 at Try 100 as Try.sortBP

theorem sortsB (m : Nat) : AnyZI.SortsIn Try.prog Try.sortedBP_ren Fence.wide m :=
  ⟨fun blk off cap ss W hH hblk hsz => callsIn_wide.2 (AnyM.slices_Sort_int Try.sortBP blk off cap ss W hH hblk hsz),
   fun p cap W => callsIn_wide.2 (AnyM.slices_Sort_int_none Try.sortBP p cap W)⟩

theorem keysB_calls (mb : Option Nat) (w : World) : Calls Try.prog 84 #[.map mb] w fun e w' => e = .returned (.func (.func 101) #[] #[.pointer (some ⟨w.heap.size, 0, none⟩)]) ∧ w' = w.alloc (.cells #[.map mb] 103) :=
  (callsIn_wide (n := 5)).1 (AnyZI.keys_in Try.keysBP Fence.wide 5 trivial rfl mb w)

/-- Sorted. -/
def risen (l : List Int) : List Int := l.mergeSort (fun x y => decide (x ≤ y))

theorem risen_len (l : List Int) : (risen l).length = l.length := List.length_mergeSort l

theorem mem_risen {l : List Int} {x : Int} : x ∈ risen l ↔ x ∈ l := by unfold risen; exact List.mem_mergeSort

theorem sortedB_calls (Bm b n : Nat) (out : List Int) (w : World) (hm : w.cell? ⟨Bm, 0, none⟩ = some (.map (some b))) (h : TabAt w .i64 3 b n (seenS out)) (hn : n ≤ 1000000) (hnd : out.Nodup) :
    Calls Try.prog 83 #[.func (.func 101) #[] #[.pointer (some ⟨Bm, 0, none⟩)]] w fun e w' => ∃ v : Value, e = .returned v ∧ w'.ownsRow w.heap.size 3 1 v (risen out).length ((risen out).map (Value.int .i64)) ∧ GrowBut w w' [] := by
  obtain ⟨D, hown, hD⟩ := h.own
  have hBm : Bm < w.heap.size := cell_lt hm
  have hsz := hown.size_le
  have hseq : SeqGives Fence.wide 2 Try.prog 101 #[.pointer (some ⟨Bm, 0, none⟩)] encZ (fun ss => ss.Perm (intKeys D)) (Maps.size D) w :=
    AnyZI.keys_gives (ρ := Try.keysBP_ren) { Try.keysBP with } Fence.wide _ trivial rfl (by omega) Bm b n D w hBm hm hown
  have hS := (callsIn_wide (n := 5)).1 (AnyZI.sorted_in Try.sortedBP Fence.wide 5 trivial trivial trivial trivial rfl (by omega) (sortsB _) (enters_of Try.func100 (by kernel_rfl) rfl) 101 #[.pointer (some ⟨Bm, 0, none⟩)] trivial (enters_of Try.func101 (by kernel_rfl) rfl) _ _ (by unfold maxLen; omega) (by omega) w hseq)
  refine hS.mono ?_
  rintro e w' ⟨v, ss, rfl, hperm, hrow, _, hb⟩
  obtain ⟨es, rfl, hpw, _⟩ := hown.entries keyW
  obtain ⟨es', hD', hko⟩ := hown.keysOf
  obtain rfl : es = es' := by simpa using hD'
  have hp : out.Perm (intKeys (.map es)) := perm_intKeys hpw (fun p hp => by obtain ⟨v, hv⟩ := hko p hp; obtain ⟨x, _, hx, _⟩ := Maps.keyOf_i64 Try.underlying3 hv; exact ⟨x, hx⟩) hnd (fun x => by
    rw [hD.has]; unfold seenS; by_cases e : x ∈ out <;> simp [e])
  have hs : ss.mergeSort (fun x y => decide (x ≤ y)) = risen out := mergeSort_of_perm_i (hperm.trans hp.symm)
  have hlen : ss.length = (risen out).length := by rw [risen_len]; exact (hperm.trans hp.symm).length_eq
  rw [hs, hlen] at hrow
  exact ⟨v, rfl, hrow, .of_below hb⟩

end Go.Proofs.Ytcoedmiichppdaa


/-
  Package pact: Deal.
-/
namespace Go.Proofs.Ytcoedmiichppdaa
open Go Go.RowKit Go.Maps Go.Am
set_option linter.unusedVariables false
set_option linter.unusedSimpArgs false

set_option maxRecDepth 100000 in
set_option maxHeartbeats 4000000 in
theorem deal_no {w : World} {ow : Nat → Int} {P MB b LB EB N : Nat} {g : Nat → Int} {L : List Int} {deals : Int → Option PactR} {events : Int → List Int} (h : PactsAt w ow P MB b LB EB N g L deals events) (m : Int) (hm : (Lit.int .u64 m).wf = true) (hd : ∀ r, deals m = some r → r.offered ≠ true) :
    Calls Try.prog 43 #[.pointer (some ⟨P, 0, none⟩), .int .u64 m] w fun e w' => e = .returned (.tuple #[.agg #[.int .i64 0, .int .i64 0, .bool false, .slice none 0 0, .slice none 0 0], .slice none 0 0, .bool false]) ∧ GrowBut w w' [] := by
  have hg := GrowBut.alloc w (.cells #[.int .i64 0, .int .i64 0, .bool false, .slice none 0 0, .slice none 0 0] 58) []
  have hO := of_no (h.step (ow' := ow) hg (fun x hx => by cases hx) (fun _ _ => rfl)) m hm true hd
  clear hd h
  have hS := (((((GrowBut.setCell (w.alloc (.cells #[.int .i64 0, .int .i64 0, .bool false, .slice none 0 0, .slice none 0 0] 58)) ⟨w.heap.size, 0, none⟩ (.int .i64 0)).trans (GrowBut.setCell _ ⟨w.heap.size, 1, none⟩ (.int .i64 0))).trans (GrowBut.setCell _ ⟨w.heap.size, 2, none⟩ (.bool false))).trans (GrowBut.setCell _ ⟨w.heap.size, 3, none⟩ (.slice none 0 0))).trans (GrowBut.setCell _ ⟨w.heap.size, 4, none⟩ (.slice none 0 0)))
  have hG := hg.from hS (fun x hx => .inr (by simp at hx; omega))
  clear hS
  go_enter Try.func43, Try.ntmps43
  go_wp2_with (first
    | (go_at_call 73; (refine hO.mono ?_; clear hO; rintro e w1 ⟨rfl, hw1⟩; rw [hw1]; clear hw1 w1))
    | fail)
  refine bodyPost_ret_by (v := .tuple #[.agg #[.int .i64 0, .int .i64 0, .bool false, .slice none 0 0, .slice none 0 0], .slice none 0 0, .bool false]) (by clear hG hg; simp only [results, Try.f43]; go_simp) rfl ?_
  exact ⟨rfl, by first | exact hG | exact hg⟩

set_option maxRecDepth 100000 in
set_option maxHeartbeats 8000000 in
theorem deal_some {w : World} {ow : Nat → Int} {P MB b LB EB N : Nat} {g : Nat → Int} {L : List Int} {deals : Int → Option PactR} {events : Int → List Int} (h : PactsAt w ow P MB b LB EB N g L deals events) (m : Int) (hm : (Lit.int .u64 m).wf = true) (r : PactR) (hd : deals m = some r) (ho : r.offered = true) (hN : N ≤ 90000) (hl7 : r.d.recvs.length ≤ 100000) (hl8 : r.d.spans.length ≤ 100000) :
    Calls Try.prog 43 #[.pointer (some ⟨P, 0, none⟩), .int .u64 m] w fun e w' => ∃ v7 v8 v9, e = .returned (.tuple #[.agg #[.int .i64 r.d.kind, .int .i64 r.d.sender, .bool r.d.zero, v7, v8], v9, .bool true]) ∧ w'.ownsRow w.heap.size 52 2 v7 r.d.recvs.length (encPr r.d.recvs) ∧ w'.ownsRow w.heap.size 55 2 v8 r.d.spans.length (encPr r.d.spans) ∧ w'.ownsRow w.heap.size 3 1 v9 (risen r.takers).length ((risen r.takers).map (Value.int .i64)) ∧ GrowBut w w' [] := by
  have hg1 := GrowBut.alloc w (.cells #[.int .i64 0, .int .i64 0, .bool false, .slice none 0 0, .slice none 0 0] 58) []
  have h1 := h.step (ow' := ow) hg1 (fun x hx => by cases hx) (fun _ _ => rfl)
  obtain ⟨X, hX, hlk, hO⟩ := of_some h1 m hm true r hd ho
  have b4 := hX.c4
  have b5 := hX.c5
  have b6 := hX.c6
  obtain ⟨v7, b7, h7, _⟩ := hX.c7
  obtain ⟨v8, b8, h8, _⟩ := hX.c8
  obtain ⟨s7, p7, rfl⟩ := row_form h7
  obtain ⟨s8, p8, rfl⟩ := row_form h8
  obtain ⟨T, b10, _, hT⟩ := hX.c10
  have hnd := hX.nd
  obtain ⟨X0, hX0, hlk0, _⟩ := of_some h m hm true r hd ho
  have hXB : X ≠ w.heap.size := by
    have hL := h.tl
    obtain ⟨fl, htl, _⟩ := hL
    have e1 := htl.look (t := 113) (e := 120) lawU Try.underlying33 Try.underlying113 (zeroPp w) hm
    have e2 := (htl.kept hg1 (by simp)).look (t := 113) (e := 120) lawU Try.underlying33 Try.underlying113 (zeroPp _) hm
    rw [hlk0] at e1
    rw [hlk] at e2
    simp at e1 e2
    rw [← e1] at e2
    have e3 : X = X0 := by simpa using e2
    have := cell_lt hX0.c0
    simp only at this
    omega
  have z0 : (w.alloc (.cells #[.int .i64 0, .int .i64 0, .bool false, .slice none 0 0, .slice none 0 0] 58)).cell? ⟨w.heap.size, 0, none⟩ = some (.int .i64 0) := by go_simp
  have z1 : (w.alloc (.cells #[.int .i64 0, .int .i64 0, .bool false, .slice none 0 0, .slice none 0 0] 58)).cell? ⟨w.heap.size, 1, none⟩ = some (.int .i64 0) := by go_simp
  have z2 : (w.alloc (.cells #[.int .i64 0, .int .i64 0, .bool false, .slice none 0 0, .slice none 0 0] 58)).cell? ⟨w.heap.size, 2, none⟩ = some (.bool false) := by go_simp
  have z3 : (w.alloc (.cells #[.int .i64 0, .int .i64 0, .bool false, .slice none 0 0, .slice none 0 0] 58)).cell? ⟨w.heap.size, 3, none⟩ = some (.slice none 0 0) := by go_simp
  have z4 : (w.alloc (.cells #[.int .i64 0, .int .i64 0, .bool false, .slice none 0 0, .slice none 0 0] 58)).cell? ⟨w.heap.size, 4, none⟩ = some (.slice none 0 0) := by go_simp
  have zf : ∀ i, i < 5 → (w.alloc (.cells #[.int .i64 0, .int .i64 0, .bool false, .slice none 0 0, .slice none 0 0] 58)).frozen? ⟨w.heap.size, i, none⟩ = false := fun i hi => by go_simp
  have hBl : w.heap.size < (w.alloc (.cells #[.int .i64 0, .int .i64 0, .bool false, .slice none 0 0, .slice none 0 0] 58)).heap.size := by go_simp
  have hsz1 : (w.alloc (.cells #[.int .i64 0, .int .i64 0, .bool false, .slice none 0 0, .slice none 0 0] 58)).heap.size = w.heap.size + 1 := by go_simp
  clear h h1 hX hX0 hlk0 hd ho
  obtain ⟨sender, kind, bytes, all, offered, d, frames, takers⟩ := r
  obtain ⟨dk, ds, dz, rs, ss⟩ := d
  simp only at *
  have dG := GrowBut.drew (w.alloc (.cells #[.int .i64 0, .int .i64 0, .bool false, .slice none 0 0, .slice none 0 0] 58)) []
  have HX : ∀ w', GrowBut (w.alloc (.cells #[.int .i64 0, .int .i64 0, .bool false, .slice none 0 0, .slice none 0 0] 58)).drew w' [] → w'.cell? ⟨X, 4, none⟩ = some (.int .i64 dk) ∧ w'.cell? ⟨X, 5, none⟩ = some (.int .i64 ds) ∧ w'.cell? ⟨X, 6, none⟩ = some (.bool dz) ∧ w'.cell? ⟨X, 7, none⟩ = some (.slice s7 rs.length p7) ∧ w'.cell? ⟨X, 8, none⟩ = some (.slice s8 ss.length p8) ∧ w'.cell? ⟨X, 10, none⟩ = some (.map (some T)) := fun w' hg => by
    have hG := dG.trans hg
    exact ⟨hG.cell b4 (by simp), hG.cell b5 (by simp), hG.cell b6 (by simp), hG.cell b7 (by simp), hG.cell b8 (by simp), hG.cell b10 (by simp)⟩
  have H7 := fun w' (hg : GrowBut (w.alloc (.cells #[.int .i64 0, .int .i64 0, .bool false, .slice none 0 0, .slice none 0 0] 58)).drew w' []) => (dG.trans hg).row h7 (by simp)
  have H8 := fun w' (hg : GrowBut (w.alloc (.cells #[.int .i64 0, .int .i64 0, .bool false, .slice none 0 0, .slice none 0 0] 58)).drew w' []) => (dG.trans hg).row h8 (by simp)
  have HT := fun w' (hg : GrowBut (w.alloc (.cells #[.int .i64 0, .int .i64 0, .bool false, .slice none 0 0, .slice none 0 0] 58)).drew w' []) => hT.kept (dG.trans hg) (by simp)
  have HB : ∀ w', GrowBut (w.alloc (.cells #[.int .i64 0, .int .i64 0, .bool false, .slice none 0 0, .slice none 0 0] 58)).drew w' [] → w'.cell? ⟨w.heap.size, 0, none⟩ = some (.int .i64 0) ∧ w'.cell? ⟨w.heap.size, 1, none⟩ = some (.int .i64 0) ∧ w'.cell? ⟨w.heap.size, 2, none⟩ = some (.bool false) ∧ w'.cell? ⟨w.heap.size, 3, none⟩ = some (.slice none 0 0) ∧ w'.cell? ⟨w.heap.size, 4, none⟩ = some (.slice none 0 0) ∧ (∀ i, i < 5 → w'.frozen? ⟨w.heap.size, i, none⟩ = false) := fun w' hg => by
    have hG := dG.trans hg
    exact ⟨hG.cell z0 (by simp), hG.cell z1 (by simp), hG.cell z2 (by simp), hG.cell z3 (by simp), hG.cell z4 (by simp), fun i hi => hG.frozen (a := ⟨w.heap.size, i, none⟩) hBl (zf i hi) (by simp)⟩
  have hsq : (w.alloc (.cells #[.int .i64 0, .int .i64 0, .bool false, .slice none 0 0, .slice none 0 0] 58)).drew.heap.size = w.heap.size + 1 := hsz1
  clear z0 z1 z2 z3 z4 zf
  go_enter Try.func43, Try.ntmps43
  go_upto_region 4 with (first
    | (go_at_call 73; (refine hO.mono ?_; clear hO; rintro e w1 ⟨rfl, hw1⟩; rw [hw1]; clear hw1 w1))
    | fail)
  obtain ⟨x4, x5, x6, x7, x8, x10⟩ := HX _ (.refl _ _)
  clear b4 b5 b6 b7 b8 b10 h7 h8 hT
  go_region_with (first
    | (go_at_call 77; (refine (twin_calls (H7 _ (.refl _ _)) (H8 _ (.refl _ _)) hl7 hl8).mono ?_; rintro e wR ⟨vR, vS, rfl, hrR, hrS, hgR⟩; obtain ⟨sR, pR, rfl⟩ := row_form hrR; obtain ⟨sS, pS, rfl⟩ := row_form hrS; obtain ⟨_, _, _, _, _, y10⟩ := HX _ hgR; have hgK := hgR.trans (GrowBut.alloc wR (.cells #[.map (some T)] 103) []); have hbx : (wR.alloc (.cells #[.map (some T)] 103)).cell? ⟨wR.heap.size, 0, none⟩ = some (.map (some T)) := (by go_simp)))
    | (go_at_call 84; (refine (keysB_calls (some T) wR).mono ?_; rintro e wK ⟨rfl, hwK⟩; rw [hwK]; clear hwK wK))
    | (go_at_call 83; (refine (sortedB_calls wR.heap.size T N takers _ hbx (HT _ hgK) (by omega) hnd).mono ?_; rintro e wS ⟨vT, rfl, hrT, hgS⟩; obtain ⟨sT, pT, rfl⟩ := row_form hrT; have hgZ := hgK.trans hgS; obtain ⟨e0, e1, e2, e3, e4, ef⟩ := HB _ hgZ))
    | fail)
  all_goals go_wp2_with fail
  all_goals
    have hS := (((((GrowBut.setCell wS ⟨w.heap.size, 0, none⟩ (.int .i64 dk)).trans (GrowBut.setCell _ ⟨w.heap.size, 1, none⟩ (.int .i64 ds))).trans (GrowBut.setCell _ ⟨w.heap.size, 2, none⟩ (.bool dz))).trans (GrowBut.setCell _ ⟨w.heap.size, 3, none⟩ (.slice sR rs.length pR))).trans (GrowBut.setCell _ ⟨w.heap.size, 4, none⟩ (.slice sS ss.length pS)))
    have hgKS := (GrowBut.alloc wR (.cells #[.map (some T)] 103) []).trans hgS
    have hsR := hgR.size
    have hsK : wR.heap.size ≤ (wR.alloc (.cells #[.map (some T)] 103)).heap.size := by go_simp
    have u7 := hS.row (hgKS.row hrR (by simp)) (fun j hj hm => by have := (hrR.lt j hj).1; simp at hm; omega)
    have u8 := hS.row (hgKS.row hrS (by simp)) (fun j hj hm => by have := (hrS.lt j hj).1; simp at hm; omega)
    have u9 := hS.row hrT (fun j hj hm => by have := (hrT.lt j hj).1; simp at hm; omega)
    have hG := ((hg1.trans dG).trans hgZ).from hS (fun x hx => .inr (by simp at hx; omega))
    refine bodyPost_ret_by (v := .tuple #[.agg #[.int .i64 dk, .int .i64 ds, .bool dz, .slice sR rs.length pR, .slice sS ss.length pS], .slice sT (risen takers).length pT, .bool true]) (by clear hG u7 u8 u9 hS hgKS hgS hgR hrR hrS hrT HX H7 H8 HT HB hgK hgZ dG hg1; simp only [results, Try.f43]; go_simp) rfl ?_
    exact ⟨_, _, _, rfl, row_low u7 (by omega), row_low u8 (by omega), row_low u9 (by omega), hG⟩

end Go.Proofs.Ytcoedmiichppdaa


/-
  Package pact: Piece's other answers; Offer where bytes are left.
-/
namespace Go.Proofs.Ytcoedmiichppdaa
open Go Go.RowKit Go.Maps Go.Am
set_option linter.unusedVariables false
set_option linter.unusedSimpArgs false

set_option maxRecDepth 100000 in
set_option maxHeartbeats 4000000 in
theorem piece_full {w : World} {ow : Nat → Int} {P MB b LB EB N : Nat} {g : Nat → Int} {L : List Int} {deals : Int → Option PactR} {events : Int → List Int} (h : PactsAt w ow P MB b LB EB N g L deals events) (m s : Int) (hm : (Lit.int .u64 m).wf = true) (r : PactR) (hd : deals m = some r) (hof : r.offered = false) (hs : r.sender = s) (all : Nat) (hall : r.all = all) (ha : all ≤ 400)
    (gb off c : Nat) (ys : List Int) (h0 : 0 < ys.length) (hb : r.bytes.length + ys.length = all) (hy : ∀ j, j < ys.length → w.cell? ⟨gb, off + j, none⟩ = some (.int .u8 (ys.getD j 0))) :
    Calls Try.prog 35 #[.pointer (some ⟨P, 0, none⟩), .int .u64 m, .int .i64 s, .slice (some ⟨gb, off, none⟩) ys.length c] w fun e w' => ∃ v, e = .returned (.tuple #[v, .int .i64 r.kind, .bool true, .int .i64 0]) ∧
      ∃ ow', (∀ x, x < w.heap.size → ow' x = ow x) ∧ RowOf w' ow' (-2) 5 1 v all ((r.bytes ++ ys).map (Value.int .u8)) ∧ PactsAt w' ow' P MB b LB EB N g L (setD deals m { r with bytes := r.bytes ++ ys }) events ∧ ∃ l, GrowBut w w' l ∧ ∀ x ∈ l, x < w.heap.size → ow x = m := by
  obtain ⟨X, hX, hlk, hO⟩ := of_some h m hm false r hd hof
  obtain ⟨Y, hY, hPc⟩ := hX.c2
  have c0 := hX.c0
  rw [hs] at c0
  have c1 := hX.c1
  have hPc0 := hPc
  rw [hall] at hPc0
  have hA := add_ok Y ow m r.bytes all gb off c ys w hPc0 ha (by omega) h0 hy
  rw [hb, decide_eq_true rfl] at hA
  go_enter Try.func35, Try.ntmps35
  go_upto_region 7 with (first
    | (go_at_call 73; (refine hO.mono ?_; clear hO; rintro e w1 ⟨rfl, hw1⟩; rw [hw1]; clear hw1 w1))
    | (go_at_call 74; (refine hA.mono ?_; clear hA; rintro e w1 ⟨rfl, hP1, l1, hg1, hl1⟩))
    | fail)
  have hXp := hX.pieced (bytes' := r.bytes ++ ys) hY hg1 hl1 (hall ▸ hP1) owN_old
  have hfin := h.change hm hd hlk hg1 (fun x hx _ => (hl1 x hx).1) hXp owN_old
  have hnX : X ∉ l1 := fun hx => by
    rcases (hl1 X hx).2 with h3 | h3
    · exact Typed.ne hX.ty h3 (by decide) rfl
    · exact Typed.ne hX.ty h3 (by decide) rfl
  have d0 := GrowBut.drew w1 []
  have cY : w1.drew.cell? ⟨X, 2, none⟩ = some (.pointer (some ⟨Y, 0, none⟩)) := hg1.cell hY hnX
  have cK : w1.drew.cell? ⟨X, 1, none⟩ = some (.int .i64 r.kind) := hg1.cell c1 hnX
  have hB := bytes_calls Y (owN ow w m) m (r.bytes ++ ys) all w1.drew (hP1.step d0 (fun x hx => by cases hx) (fun _ _ => rfl)) (by rw [List.length_append]; omega) (by rw [List.length_append]; omega)
  have hbl : (r.bytes ++ ys).length = all := by rw [List.length_append]; exact hb
  rw [hbl] at hB
  clear hX hXp hPc hPc0 hP1 hY c1 c0
  obtain ⟨bs, hbs⟩ : ∃ bs, r.bytes ++ ys = bs := ⟨_, rfl⟩
  obtain ⟨rk, hrk⟩ : ∃ rk, r.kind = rk := ⟨_, rfl⟩
  rw [hbs] at hB
  rw [hrk] at cK
  go_region_with (first
    | (go_at_call 75; (refine hB.mono ?_; clear hB; rintro e w2 ⟨v2, rfl, hrow2, hg2⟩; have cK2 := hg2.cell cK (by simp)))
    | fail)
  all_goals go_wp2_with fail
  all_goals (try simp only [Exit.inBlock, Exit.then])
  all_goals refine bodyPost_ret_by (v := .tuple #[v2, .int .i64 rk, .bool true, .int .i64 0]) (by simp only [results, Try.f35]; go_simp) rfl ?_
  all_goals subst hbs hrk
  all_goals have hs1 := hg1.size
  all_goals have hdz : w1.drew.heap.size = w1.heap.size := rfl
  all_goals exact ⟨v2, rfl, owN (owN ow w m) w1 (-2), fun x hx => by rw [owN_old x (by omega), owN_old x hx], ⟨row_low hrow2 (Nat.zero_le _), fun x hx => owN_new (by have := (hrow2.lt x hx).1; omega)⟩, hfin.step (d0.trans hg2) (fun x hx => by cases hx) owN_old, l1, hg1.trans ((d0.trans hg2).mono (fun x hx => by cases hx)), fun x hx _ => (hl1 x hx).1⟩

set_option maxRecDepth 100000 in
set_option maxHeartbeats 4000000 in
theorem piece_part {w : World} {ow : Nat → Int} {P MB b LB EB N : Nat} {g : Nat → Int} {L : List Int} {deals : Int → Option PactR} {events : Int → List Int} (h : PactsAt w ow P MB b LB EB N g L deals events) (m s : Int) (hm : (Lit.int .u64 m).wf = true) (r : PactR) (hd : deals m = some r) (hof : r.offered = false) (hs : r.sender = s) (all : Nat) (hall : r.all = all) (ha : all ≤ 400)
    (gb off c : Nat) (ys : List Int) (h0 : 0 < ys.length) (hb : r.bytes.length + ys.length < all) (hy : ∀ j, j < ys.length → w.cell? ⟨gb, off + j, none⟩ = some (.int .u8 (ys.getD j 0))) :
    Calls Try.prog 35 #[.pointer (some ⟨P, 0, none⟩), .int .u64 m, .int .i64 s, .slice (some ⟨gb, off, none⟩) ys.length c] w fun e w' => e = .returned (.tuple #[.slice none 0 0, .int .i64 0, .bool false, .int .i64 0]) ∧
      ∃ ow', (∀ x, x < w.heap.size → ow' x = ow x) ∧ PactsAt w' ow' P MB b LB EB N g L (setD deals m { r with bytes := r.bytes ++ ys }) events ∧ ∃ l, GrowBut w w' l ∧ ∀ x ∈ l, x < w.heap.size → ow x = m := by
  obtain ⟨X, hX, hlk, hO⟩ := of_some h m hm false r hd hof
  obtain ⟨Y, hY, hPc⟩ := hX.c2
  have c0 := hX.c0
  rw [hs] at c0
  have hPc0 := hPc
  rw [hall] at hPc0
  have hA := add_ok Y ow m r.bytes all gb off c ys w hPc0 ha (by omega) h0 hy
  rw [decide_eq_false (by omega : ¬ r.bytes.length + ys.length = all)] at hA
  go_enter Try.func35, Try.ntmps35
  go_wp2_with (first
    | (go_at_call 73; (refine hO.mono ?_; clear hO; rintro e w1 ⟨rfl, hw1⟩; rw [hw1]; clear hw1 w1))
    | (go_at_call 74; (refine hA.mono ?_; clear hA; rintro e w1 ⟨rfl, hP1, l1, hg1, hl1⟩))
    | fail)
  have hXp := hX.pieced (bytes' := r.bytes ++ ys) hY hg1 hl1 (hall ▸ hP1) owN_old
  have hfin := h.change hm hd hlk hg1 (fun x hx _ => (hl1 x hx).1) hXp owN_old
  refine bodyPost_ret_by (v := .tuple #[.slice none 0 0, .int .i64 0, .bool false, .int .i64 0]) (by simp only [results, Try.f35]; go_simp) rfl ?_
  exact ⟨rfl, _, owN_old, hfin, l1, hg1, fun x hx _ => (hl1 x hx).1⟩

set_option maxRecDepth 100000 in
set_option maxHeartbeats 4000000 in
theorem piece_over {w : World} {ow : Nat → Int} {P MB b LB EB N : Nat} {g : Nat → Int} {L : List Int} {deals : Int → Option PactR} {events : Int → List Int} (h : PactsAt w ow P MB b LB EB N g L deals events) (m s : Int) (hm : (Lit.int .u64 m).wf = true) (r : PactR) (hd : deals m = some r) (hof : r.offered = false) (hs : r.sender = s) (all : Nat) (hall : r.all = all) (ha : all ≤ 400)
    (s1 : Option Addr) (n c : Nat) (hb : r.bytes.length ≤ all) (hno : n = 0 ∨ all < r.bytes.length + n) (hn : n ≤ 100000) :
    Calls Try.prog 35 #[.pointer (some ⟨P, 0, none⟩), .int .u64 m, .int .i64 s, .slice s1 n c] w fun e w' => e = .returned (.tuple #[.slice none 0 0, .int .i64 0, .bool false, .int .i64 (-2)]) ∧ GrowBut w w' [] := by
  obtain ⟨X, hX, hlk, hO⟩ := of_some h m hm false r hd hof
  obtain ⟨Y, hY, hPc⟩ := hX.c2
  have c0 := hX.c0
  rw [hs] at c0
  rw [hall] at hPc
  have hA := add_no Y ow m r.bytes all s1 n c w hPc ha hb hno hn
  clear hno
  go_enter Try.func35, Try.ntmps35
  go_wp2_with (first
    | (go_at_call 73; (refine hO.mono ?_; clear hO; rintro e w1 ⟨rfl, hw1⟩; rw [hw1]; clear hw1 w1))
    | (go_at_call 74; (refine hA.mono ?_; clear hA; rintro e w1 ⟨rfl, hg1⟩))
    | fail)
  refine bodyPost_ret_by (v := .tuple #[.slice none 0 0, .int .i64 0, .bool false, .int .i64 (-2)]) (by simp only [results, Try.f35]; go_simp) rfl ?_
  exact ⟨rfl, hg1⟩

set_option maxRecDepth 100000 in
set_option maxHeartbeats 4000000 in
theorem piece_other {w : World} {ow : Nat → Int} {P MB b LB EB N : Nat} {g : Nat → Int} {L : List Int} {deals : Int → Option PactR} {events : Int → List Int} (h : PactsAt w ow P MB b LB EB N g L deals events) (m s : Int) (hm : (Lit.int .u64 m).wf = true) (r : PactR) (hd : deals m = some r) (hof : r.offered = false) (hs : r.sender ≠ s) (v : Value) :
    Calls Try.prog 35 #[.pointer (some ⟨P, 0, none⟩), .int .u64 m, .int .i64 s, v] w fun e w' => e = .returned (.tuple #[.slice none 0 0, .int .i64 0, .bool false, .int .i64 (-2)]) ∧ w' = w := by
  obtain ⟨X, hX, hlk, hO⟩ := of_some h m hm false r hd hof
  have c0 := hX.c0
  clear hX hlk hd h
  generalize r.sender = s0 at c0 hs
  have hs' : (s0 == s) = false := by simpa using hs
  go_enter Try.func35, Try.ntmps35
  go_wp2_with (first
    | (go_at_call 73; (refine hO.mono ?_; clear hO; rintro e w1 ⟨rfl, hw1⟩; rw [hw1]; clear hw1 w1))
    | fail)
  refine bodyPost_ret_by (v := .tuple #[.slice none 0 0, .int .i64 0, .bool false, .int .i64 (-2)]) (by simp only [results, Try.f35]; go_simp) rfl ?_
  exact ⟨rfl, rfl⟩

set_option maxRecDepth 100000 in
set_option maxHeartbeats 4000000 in
theorem offer_left {w : World} {ow : Nat → Int} {P MB b LB EB N : Nat} {g : Nat → Int} {L : List Int} {deals : Int → Option PactR} {events : Int → List Int} (h : PactsAt w ow P MB b LB EB N g L deals events) (m : Int) (hm : (Lit.int .u64 m).wf = true) (r : PactR) (hd : deals m = some r) (ho : r.offered = false) (all : Nat) (hall : r.all = all) (ha : all ≤ 400) (hb : r.bytes.length < all)
    {k s : Int} {z : Bool} {a7 a8 a9 : Option Addr} {n7 n8 n9 c7 c8 c9 : Nat} :
    Calls Try.prog 36 #[.pointer (some ⟨P, 0, none⟩), .int .u64 m, .agg #[.int .i64 k, .int .i64 s, .bool z, .slice a7 n7 c7, .slice a8 n8 c8], .slice a9 n9 c9] w fun e w' => e = .returned (.int .i64 (-2)) ∧ GrowBut w w' [] := by
  have hg1 := GrowBut.alloc w (.cells #[.int .i64 k, .int .i64 s, .bool z, .slice a7 n7 c7, .slice a8 n8 c8] 58) []
  obtain ⟨X, hX, hlk, hO⟩ := of_some (h.step (ow' := ow) hg1 (fun x hx => by cases hx) (fun _ _ => rfl)) m hm false r hd ho
  obtain ⟨Y, hY, hPc⟩ := hX.c2
  rw [hall] at hPc
  have hL := left_calls Y _ m r.bytes all _ hPc ha (by omega)
  have hpos : (0 : Int) < ((all - r.bytes.length : Nat) : Int) := by omega
  generalize all - r.bytes.length = q at hL hpos
  have hpos' : 0 < q := by omega
  clear hX hPc hlk hd h
  go_enter Try.func36, Try.ntmps36
  go_wp2_with (first
    | (go_at_call 73; (refine hO.mono ?_; clear hO; rintro e w1 ⟨rfl, hw1⟩; rw [hw1]; clear hw1 w1))
    | (go_at_call 76; (refine hL.mono ?_; clear hL; rintro e w2 ⟨rfl, hg2⟩))
    | fail)
  go_ret
  exact ⟨rfl, hg1.trans hg2⟩

end Go.Proofs.Ytcoedmiichppdaa


/-
  Package pact: each method as one contract over plain functions.
-/
namespace Go.Proofs.Ytcoedmiichppdaa
open Go Go.RowKit Go.Maps Go.Am
set_option linter.unusedVariables false
set_option linter.unusedSimpArgs false

/-- What is the law's own (-2) is kept. -/
def Kept (w w' : World) (ow ow' : Nat → Int) : Prop := (∀ x, x < w.heap.size → ow' x = ow x) ∧ ∃ l, GrowBut w w' l ∧ ∀ x ∈ l, x < w.heap.size → ow x ≠ -2

theorem Kept.cell {w w' : World} {ow ow' : Nat → Int} (h : Kept w w' ow ow') {a : Addr} {v : Value} (hc : w.cell? a = some v) (ho : ow a.block = -2) : w'.cell? a = some v := by
  obtain ⟨_, l, hg, hl⟩ := h
  exact hg.cell hc (fun hx => hl _ hx (cell_lt hc) ho)

theorem Kept.frozen {w w' : World} {ow ow' : Nat → Int} (h : Kept w w' ow ow') {a : Addr} (hs : a.block < w.heap.size) (hc : w.frozen? a = false) (ho : ow a.block = -2) : w'.frozen? a = false := by
  obtain ⟨_, l, hg, hl⟩ := h
  exact hg.frozen hs hc (fun hx => hl _ hx hs ho)

theorem Kept.row {w w' : World} {ow ow' : Nat → Int} (h : Kept w w' ow ow') {e : TypeId} {size n : Nat} {v : Value} {xs : List Value} (hr : RowOf w ow (-2) e size v n xs) : RowOf w' ow' (-2) e size v n xs := by
  obtain ⟨ho, l, hg, hl⟩ := h
  exact hr.step hg hl ho

theorem Kept.size {w w' : World} {ow ow' : Nat → Int} (h : Kept w w' ow ow') : w.heap.size ≤ w'.heap.size := by
  obtain ⟨_, l, hg, _⟩ := h
  exact hg.size

theorem Kept.old {w w' : World} {ow ow' : Nat → Int} (h : Kept w w' ow ow') {x : Nat} (hx : x < w.heap.size) : ow' x = ow x := h.1 x hx

theorem Kept.grow {w0 w w' : World} {ow ow' : Nat → Int} (h : Kept w w' ow ow') (hg : GrowBut w0 w []) (hlo : ∀ x, x < w0.heap.size → ow x = -2) : GrowBut w0 w' [] := by
  obtain ⟨_, l, hk, hl⟩ := h
  have hs := hg.size
  exact ⟨by rw [hk.os, hg.os], by rw [hk.tape, hg.tape], by rw [hk.output, hg.output], Nat.le_trans hs hk.size, fun j hj hn => by rw [hk.block j (by omega) (fun hm => hl j hm (by omega) (hlo j hj)), hg.block j hj hn]⟩

theorem Kept.refl (w : World) (ow : Nat → Int) : Kept w w ow ow := ⟨fun _ _ => rfl, [], .refl _ _, fun x hx => by cases hx⟩

theorem Kept.quiet {w w' : World} {ow : Nat → Int} (h : GrowBut w w' []) : Kept w w' ow (owN ow w (-2)) := ⟨owN_old, [], h, fun x hx => by cases hx⟩

theorem Kept.trans {w w1 w2 : World} {ow ow1 ow2 : Nat → Int} (h : Kept w w1 ow ow1) (k : Kept w1 w2 ow1 ow2) : Kept w w2 ow ow2 := by
  have hs := h.size
  obtain ⟨ho, l, hg, hl⟩ := h
  obtain ⟨ho', l', hg', hl'⟩ := k
  refine ⟨fun x hx => by rw [ho' x (by omega), ho x hx], l ++ l', (hg.mono (fun x hx => List.mem_append.2 (.inl hx))).trans (hg'.mono (fun x hx => List.mem_append.2 (.inr hx))), fun x hx hxs => ?_⟩
  rcases List.mem_append.1 hx with hx | hx
  · exact hl x hx hxs
  · have := hl' x hx (by omega)
    rw [ho x hxs] at this
    exact this

/-- Own blocks that turn. -/
theorem Kept.mine {w w' : World} {ow : Nat → Int} {l : List Nat} (h : GrowBut w w' l) : (∀ x, x < w.heap.size → owN ow w (-2) x = ow x) := owN_old

/-- One mark's deal, one mark's events. -/
def updD (deals : Int → Option PactR) (m : Int) (o : Option PactR) : Int → Option PactR := fun k => if k = m then o else deals k

def updE (events : Int → List Int) (m : Int) (l : List Int) : Int → List Int := fun k => if k = m then l else events k

theorem updD_same (deals : Int → Option PactR) (m : Int) (o : Option PactR) : updD deals m o m = o := by simp [updD]

theorem updE_same (events : Int → List Int) (m : Int) (l : List Int) : updE events m l m = l := by simp [updE]

theorem updD_id (deals : Int → Option PactR) (m : Int) : updD deals m (deals m) = deals := by
  funext k; unfold updD; split <;> simp_all

theorem updE_id (events : Int → List Int) (m : Int) : updE events m (events m) = events := by
  funext k; unfold updE; split <;> simp_all

theorem setD_upd (deals : Int → Option PactR) (m : Int) (r : PactR) : setD deals m r = updD deals m (some r) := rfl

theorem noDeal_upd (deals : Int → Option PactR) (m : Int) : noDeal deals m = updD deals m none := rfl

theorem noteE_upd (events : Int → List Int) (m e : Int) : noteE events m e = updE events m (events m ++ [e]) := by
  funext k; unfold noteE updE; split <;> simp_all

/-- The marks that are there, of which one's deal is now o. -/
def nextL (L : List Int) (m : Int) (o : Option PactR) : List Int := if o.isSome then L else L.erase m

/-- A record in its bounds. -/
structure OkR (r : PactR) : Prop where
  l7 : r.d.recvs.length ≤ 10000
  l8 : r.d.spans.length ≤ 10000
  l9 : r.frames.length ≤ 10000
  all_ : ∃ all : Nat, r.all = all ∧ all ≤ 400 ∧ r.bytes.length ≤ all

/-- Deals are at P: the marks are those of the deals. -/
structure AllP (w : World) (ow : Nat → Int) (P N : Nat) (g : Nat → Int) (L : List Int) (deals : Int → Option PactR) (events : Int → List Int) : Prop where
  at_ : ∃ MB b LB EB, PactsAt w ow P MB b LB EB N g L deals events
  mem : ∀ x, x ∈ L ↔ (deals x).isSome = true
  ok : ∀ x r, deals x = some r → OkR r

theorem AllP.nodup {w : World} {ow : Nat → Int} {P N : Nat} {g : Nat → Int} {L : List Int} {deals : Int → Option PactR} {events : Int → List Int} (h : AllP w ow P N g L deals events) : L.Nodup := by
  obtain ⟨MB, b, LB, EB, hP⟩ := h.at_
  obtain ⟨D, _, hD⟩ := hP.marks.own
  exact hD.nodup

theorem AllP.kept {w w' : World} {ow ow' : Nat → Int} {P N : Nat} {g : Nat → Int} {L : List Int} {deals : Int → Option PactR} {events : Int → List Int} (h : AllP w ow P N g L deals events) {l : List Nat} (hg : GrowBut w w' l) (hl : ∀ x ∈ l, x < w.heap.size → ow x = -2) (ho : ∀ x, x < w.heap.size → ow' x = ow x) : AllP w' ow' P N g L deals events := by
  obtain ⟨MB, b, LB, EB, hP⟩ := h.at_
  exact ⟨⟨MB, b, LB, EB, hP.step hg hl ho⟩, h.mem, h.ok⟩

theorem AllP.more {w : World} {ow : Nat → Int} {P N N' : Nat} {g : Nat → Int} {L : List Int} {deals : Int → Option PactR} {events : Int → List Int} (h : AllP w ow P N g L deals events) (hn : N ≤ N') : AllP w ow P N' g L deals events := by
  obtain ⟨MB, b, LB, EB, hP⟩ := h.at_
  exact ⟨⟨MB, b, LB, EB, hP.moreN hn⟩, h.mem, h.ok⟩

/-- Behind a step on m: what AllP says of the rest. -/
theorem AllP.next {w w' : World} {ow ow' : Nat → Int} {P MB b LB EB N N' : Nat} {g : Nat → Int} {L : List Int} {deals : Int → Option PactR} {events : Int → List Int} (h : AllP w ow P N g L deals events) {m : Int} {o : Option PactR} {ev : List Int} (hP : PactsAt w' ow' P MB b LB EB N' g (nextL L m o) (updD deals m o) (updE events m ev)) (hm : o.isSome = true → m ∈ L) (hok : ∀ r, o = some r → OkR r) : AllP w' ow' P N' g (nextL L m o) (updD deals m o) (updE events m ev) := by
  have hnd := h.nodup
  refine ⟨⟨MB, b, LB, EB, hP⟩, fun x => ?_, fun x r hr => ?_⟩
  · unfold nextL updD
    by_cases e : x = m
    · subst e
      cases o with
      | none => simp [hnd.mem_erase_iff]
      | some r => simpa using hm rfl
    · cases o with
      | none => simp [hnd.mem_erase_iff, e, h.mem]
      | some r => simp [e, h.mem]
  · unfold updD at hr
    split at hr
    · exact hok r hr
    · exact h.ok x r hr

/-- The same where nothing has turned. -/
theorem AllP.same {w w' : World} {ow ow' : Nat → Int} {P N N' : Nat} {g : Nat → Int} {L : List Int} {deals : Int → Option PactR} {events : Int → List Int} (h : AllP w ow P N g L deals events) (m : Int) (h' : AllP w' ow' P N' g L deals events) : AllP w' ow' P N' g (nextL L m (deals m)) (updD deals m (deals m)) (updE events m (events m)) := by
  rw [updD_id, updE_id]
  have hnd := h.nodup
  have : nextL L m (deals m) = L := by
    unfold nextL
    cases hd : deals m with
    | none => simp only [Option.isSome_none, Bool.false_eq_true, if_false]; exact List.erase_of_not_mem (fun hx => by rw [h.mem, hd] at hx; cases hx)
    | some r => simp
  rw [this]
  exact h'

/-! ### Take -/

def takeO (o : Option PactR) (who : Int) : Option PactR := if mayF o who 3 = 0 then o.bind fun r => if r.d.kind = 3 then none else some { r with takers := r.takers ++ [who] } else o

def takeE (o : Option PactR) (who : Int) (ev : List Int) : List Int := if mayF o who 3 = 0 then ev ++ [if o.any (fun r => decide (r.d.kind = 3)) then 6 else 3] else ev

def takeF (o : Option PactR) (who : Int) : List Int := if mayF o who 3 = 0 then (o.map PactR.frames).getD [] else []

def takeP (o : Option PactR) (who : Int) : Int := if mayF o who 3 = 0 then (o.map fun r => permF r.d.recvs who).getD 0 else 0

/-- What is told of a deal: nothing where it is refused. -/
def zeroD : DealR := ⟨0, 0, false, [], []⟩

def toldD (o : Option PactR) (er : Int) : DealR := if er = 0 then (o.map PactR.d).getD zeroD else zeroD

/-- A deal's value. -/
def DealV (w : World) (ow : Nat → Int) (d : DealR) (v : Value) : Prop := ∃ v7 v8, v = .agg #[.int .i64 d.kind, .int .i64 d.sender, .bool d.zero, v7, v8] ∧ RowOf w ow (-2) 52 2 v7 d.recvs.length (encPr d.recvs) ∧ RowOf w ow (-2) 55 2 v8 d.spans.length (encPr d.spans)

def FramesV (w : World) (ow : Nat → Int) (l : List Int) (v : Value) : Prop := RowOf w ow (-2) 3 1 v l.length (l.map (Value.int .i64))

theorem nilRow (w : World) (ow : Nat → Int) (e : TypeId) (size : Nat) : RowOf w ow (-2) e size (.slice none 0 0) 0 [] := ⟨World.ownsRow_nil _ _ _ _, fun g hg => by cases hg⟩

theorem zeroDV (w : World) (ow : Nat → Int) : DealV w ow zeroD (.agg #[.int .i64 0, .int .i64 0, .bool false, .slice none 0 0, .slice none 0 0]) := ⟨_, _, rfl, nilRow _ _ _ _, nilRow _ _ _ _⟩

theorem mayF_cases (o : Option PactR) (who ev : Int) (h : mayF o who ev = 0) : ∃ r, o = some r ∧ r.offered = true ∧ mayR r who ev = 0 := by
  unfold mayF at h
  cases o with
  | none => simp at h
  | some r =>
    simp only at h
    split at h
    · rename_i ho; exact ⟨r, rfl, ho, h⟩
    · simp at h

/-- May, whole. -/
theorem may_any {w : World} {ow : Nat → Int} {P N : Nat} {g : Nat → Int} {L : List Int} {deals : Int → Option PactR} {events : Int → List Int} (h : AllP w ow P N g L deals events) (m who ev : Int) (hm : (Lit.int .u64 m).wf = true) (hp : (Lit.int .i64 who).wf = true) (hev : ev = 3 ∨ ev = 4 ∨ ev = 5) :
    Calls Try.prog 55 #[.pointer (some ⟨P, 0, none⟩), .int .u64 m, .int .i64 who, .int .i64 ev] w fun e w' => e = .returned (.int .i64 (mayF (deals m) who ev)) ∧ GrowBut w w' [] := by
  obtain ⟨MB, b, LB, EB, hP⟩ := h.at_
  by_cases hd : ∃ r, deals m = some r ∧ r.offered = true
  · obtain ⟨r, hr, ho⟩ := hd
    have hok := h.ok m r hr
    have e1 : mayF (deals m) who ev = mayR r who ev := by rw [hr]; simp [mayF, ho]
    rw [e1]
    rcases hev with rfl | rfl | rfl
    · exact may_take hP m who hm hp r hr ho (by have := hok.l7; omega)
    · refine (may_leave hP m who hm hp r hr ho _ rfl).mono ?_
      rintro e w' ⟨rfl, rfl⟩
      refine ⟨?_, .refl _ _⟩
      by_cases ht : who ∈ r.takers <;> simp [mayR, ht]
    · exact may_recl hP m who hm r hr ho
  · have e1 : mayF (deals m) who ev = -2 := by
      unfold mayF
      cases hr : deals m with
      | none => rfl
      | some r =>
        have : r.offered = false := by cases hh : r.offered; rfl; exact absurd ⟨r, hr, hh⟩ hd
        simp [this]
    rw [e1]
    refine (may_none hP m who ev hm (fun r hr ho => hd ⟨r, hr, ho⟩)).mono ?_
    rintro e w' ⟨rfl, rfl⟩
    exact ⟨rfl, .refl _ _⟩

theorem AllP.alloc {w : World} {ow : Nat → Int} {P N : Nat} {g : Nat → Int} {L : List Int} {deals : Int → Option PactR} {events : Int → List Int} (h : AllP w ow P N g L deals events) (o : Obj) : AllP (w.alloc o) (owN ow w (-2)) P N g L deals events := h.kept (GrowBut.alloc _ _ []) (fun x hx => by cases hx) owN_old

/-- Take, whole. -/
theorem take_any {w : World} {ow : Nat → Int} {P N : Nat} {g : Nat → Int} {L : List Int} {deals : Int → Option PactR} {events : Int → List Int} (h : AllP w ow P N g L deals events) (m who : Int) (hm : (Lit.int .u64 m).wf = true) (hp : (Lit.int .i64 who).wf = true) (hN : N ≤ 90000) (hl : (events m).length ≤ 10000) :
    Calls Try.prog 37 #[.pointer (some ⟨P, 0, none⟩), .int .u64 m, .int .i64 who] w fun e w' => ∃ ow' vd vf, e = .returned (.tuple #[vd, vf, .int .i64 (takeP (deals m) who), .int .i64 (mayF (deals m) who 3)]) ∧ DealV w' ow' (toldD (deals m) (mayF (deals m) who 3)) vd ∧ FramesV w' ow' (takeF (deals m) who) vf ∧
      AllP w' ow' P (N + 2) g (nextL L m (takeO (deals m) who)) (updD deals m (takeO (deals m) who)) (updE events m (takeE (deals m) who (events m))) ∧ Kept w w' ow ow' := by
  by_cases he : mayF (deals m) who 3 = 0
  · obtain ⟨r, hr, ho, hmay⟩ := mayF_cases _ _ _ he
    have hok := h.ok m r hr
    have hmem : m ∈ L := by rw [h.mem, hr]; rfl
    obtain ⟨MB, b, LB, EB, hP⟩ := h.at_
    have hm0 := hP.pos m (.inl (by rw [hr]; exact fun e => by cases e))
    have hrt : recvB r.d.recvs who = true ∧ who ∉ r.takers := by
      apply Decidable.byContradiction
      intro hn
      simp [mayR, hn] at hmay
    have e1 : toldD (deals m) 0 = r.d := by rw [hr]; simp [toldD]
    have e2 : takeF (deals m) who = r.frames := by unfold takeF; rw [if_pos he, hr]; rfl
    have e3 : takeP (deals m) who = permF r.d.recvs who := by unfold takeP; rw [if_pos he, hr]; rfl
    rw [he, e1, e2, e3]
    by_cases hk : r.d.kind = 3
    · have e4 : takeO (deals m) who = none := by unfold takeO; rw [if_pos he, hr]; simp [hk]
      have e5 : takeE (deals m) who (events m) = events m ++ [6] := by unfold takeE; rw [if_pos he, hr]; simp [hk]
      rw [e4, e5]
      refine (take_give hP m who hm hp r hr ho hrt.1 hrt.2 hk (by omega) hl (by have := hok.l7; omega) (by have := hok.l8; omega) (by have := hok.l9; omega)).mono ?_
      rintro e w' ⟨v7, v8, v9, rfl, ow', ho', h7, h8, h9, hP', l, hg, hl'⟩
      refine ⟨ow', _, v9, rfl, ⟨v7, v8, rfl, h7, h8⟩, h9, ?_, ho', l, hg, fun x hx hxs => by have := hl' x hx hxs; omega⟩
      rw [noDeal_upd, noteE_upd] at hP'
      have := h.next (o := none) (N' := N + 1) (by unfold nextL; exact hP') (fun e => by cases e) (fun r hr => by cases hr)
      exact this.more (by omega)
    · have e4 : takeO (deals m) who = some { r with takers := r.takers ++ [who] } := by unfold takeO; rw [if_pos he, hr]; simp [hk]
      have e5 : takeE (deals m) who (events m) = events m ++ [3] := by unfold takeE; rw [if_pos he, hr]; simp [hk]
      rw [e4, e5]
      refine (take_some hP m who hm hp r hr ho hrt.1 hrt.2 hk hN hl (by have := hok.l7; omega) (by have := hok.l8; omega) (by have := hok.l9; omega)).mono ?_
      rintro e w' ⟨v7, v8, v9, rfl, ow', ho', h7, h8, h9, hP', l, hg, hl'⟩
      refine ⟨ow', _, v9, rfl, ⟨v7, v8, rfl, h7, h8⟩, h9, ?_, ho', l, hg, fun x hx hxs => by have := hl' x hx hxs; omega⟩
      rw [setD_upd, noteE_upd] at hP'
      exact h.next (by unfold nextL; exact hP') (fun _ => hmem) (fun r' hr' => by cases hr'; exact ⟨hok.l7, hok.l8, hok.l9, hok.all_⟩)
  · have e1 : toldD (deals m) (mayF (deals m) who 3) = zeroD := by simp [toldD, he]
    have e2 : takeF (deals m) who = [] := by simp [takeF, he]
    have e3 : takeP (deals m) who = 0 := by simp [takeP, he]
    have e4 : takeO (deals m) who = deals m := by simp [takeO, he]
    have e5 : takeE (deals m) who (events m) = events m := by simp [takeE, he]
    rw [e1, e2, e3, e4, e5]
    refine (take_no P m who _ w he (may_any (h.alloc _) m who 3 hm hp (.inl rfl))).mono ?_
    rintro e w' ⟨rfl, hg⟩
    exact ⟨owN ow w (-2), _, _, rfl, zeroDV _ _, nilRow _ _ _ _, h.same m ((h.kept hg (fun x hx => by cases hx) owN_old).more (by omega)), .quiet hg⟩

end Go.Proofs.Ytcoedmiichppdaa


/-
  Package pact: each method as one contract over plain functions: Leave, Reclaim, Drop, Offer, Piece, Events, Deal, Begin.
-/
namespace Go.Proofs.Ytcoedmiichppdaa
open Go Go.RowKit Go.Maps Go.Am
set_option linter.unusedVariables false
set_option linter.unusedSimpArgs false

/-! ### Leave -/

def leaveO (o : Option PactR) (who : Int) : Option PactR := if mayF o who 4 = 0 then o.map fun r => { r with takers := r.takers.erase who } else o

def leaveE (o : Option PactR) (who : Int) (ev : List Int) : List Int := if mayF o who 4 = 0 then ev ++ [4] else ev

def toldF (o : Option PactR) (er : Int) : List Int := if er = 0 then (o.map PactR.frames).getD [] else []

theorem leave_any {w : World} {ow : Nat → Int} {P N : Nat} {g : Nat → Int} {L : List Int} {deals : Int → Option PactR} {events : Int → List Int} (h : AllP w ow P N g L deals events) (m who : Int) (hm : (Lit.int .u64 m).wf = true) (hp : (Lit.int .i64 who).wf = true) (hN : N ≤ 90000) (hl : (events m).length ≤ 10000) :
    Calls Try.prog 38 #[.pointer (some ⟨P, 0, none⟩), .int .u64 m, .int .i64 who] w fun e w' => ∃ ow' vd vf, e = .returned (.tuple #[vd, vf, .int .i64 (mayF (deals m) who 4)]) ∧ DealV w' ow' (toldD (deals m) (mayF (deals m) who 4)) vd ∧ FramesV w' ow' (toldF (deals m) (mayF (deals m) who 4)) vf ∧
      AllP w' ow' P (N + 2) g (nextL L m (leaveO (deals m) who)) (updD deals m (leaveO (deals m) who)) (updE events m (leaveE (deals m) who (events m))) ∧ Kept w w' ow ow' := by
  by_cases he : mayF (deals m) who 4 = 0
  · obtain ⟨r, hr, ho, hmay⟩ := mayF_cases _ _ _ he
    have hok := h.ok m r hr
    have hmem : m ∈ L := by rw [h.mem, hr]; rfl
    obtain ⟨MB, b, LB, EB, hP⟩ := h.at_
    have hm0 := hP.pos m (.inl (by rw [hr]; exact fun e => by cases e))
    have hrt : who ∈ r.takers := by
      apply Decidable.byContradiction
      intro hn
      simp [mayR, hn] at hmay
    have e1 : toldD (deals m) 0 = r.d := by rw [hr]; simp [toldD]
    have e2 : toldF (deals m) 0 = r.frames := by rw [hr]; simp [toldF]
    have e4 : leaveO (deals m) who = some { r with takers := r.takers.erase who } := by unfold leaveO; rw [if_pos he, hr]; rfl
    have e5 : leaveE (deals m) who (events m) = events m ++ [4] := by unfold leaveE; rw [if_pos he]
    rw [he, e1, e2, e4, e5]
    refine (leave_ok hP m who hm hp r hr ho hrt hN hl (by have := hok.l7; omega) (by have := hok.l8; omega) (by have := hok.l9; omega)).mono ?_
    rintro e w' ⟨v7, v8, v9, rfl, ow', ho', h7, h8, h9, hP', l, hg, hl'⟩
    refine ⟨ow', _, v9, rfl, ⟨v7, v8, rfl, h7, h8⟩, h9, ?_, ho', l, hg, fun x hx hxs => by have := hl' x hx hxs; omega⟩
    rw [setD_upd, noteE_upd] at hP'
    exact (h.next (N' := N + 1) (by unfold nextL; exact hP') (fun _ => hmem) (fun r' hr' => by cases hr'; exact ⟨hok.l7, hok.l8, hok.l9, hok.all_⟩)).more (by omega)
  · have e1 : toldD (deals m) (mayF (deals m) who 4) = zeroD := by simp [toldD, he]
    have e2 : toldF (deals m) (mayF (deals m) who 4) = [] := by simp [toldF, he]
    have e4 : leaveO (deals m) who = deals m := by simp [leaveO, he]
    have e5 : leaveE (deals m) who (events m) = events m := by simp [leaveE, he]
    rw [e1, e2, e4, e5]
    refine (leave_no P m who _ w he (may_any (h.alloc _) m who 4 hm hp (.inr (.inl rfl)))).mono ?_
    rintro e w' ⟨rfl, hg⟩
    exact ⟨owN ow w (-2), _, _, rfl, zeroDV _ _, nilRow _ _ _ _, h.same m ((h.kept hg (fun x hx => by cases hx) owN_old).more (by omega)), .quiet hg⟩

/-! ### Reclaim -/

def reclO (o : Option PactR) (who : Int) : Option PactR := if mayF o who 5 = 0 then none else o

def reclE (o : Option PactR) (who : Int) (ev : List Int) : List Int := if mayF o who 5 = 0 then ev ++ [5] else ev

theorem recl_any {w : World} {ow : Nat → Int} {P N : Nat} {g : Nat → Int} {L : List Int} {deals : Int → Option PactR} {events : Int → List Int} (h : AllP w ow P N g L deals events) (m who : Int) (hm : (Lit.int .u64 m).wf = true) (hp : (Lit.int .i64 who).wf = true) (hN : N ≤ 90000) (hl : (events m).length ≤ 10000) :
    Calls Try.prog 39 #[.pointer (some ⟨P, 0, none⟩), .int .u64 m, .int .i64 who] w fun e w' => ∃ ow' vd vf, e = .returned (.tuple #[vd, vf, .int .i64 (mayF (deals m) who 5)]) ∧ DealV w' ow' (toldD (deals m) (mayF (deals m) who 5)) vd ∧ FramesV w' ow' (toldF (deals m) (mayF (deals m) who 5)) vf ∧
      AllP w' ow' P (N + 2) g (nextL L m (reclO (deals m) who)) (updD deals m (reclO (deals m) who)) (updE events m (reclE (deals m) who (events m))) ∧ Kept w w' ow ow' := by
  by_cases he : mayF (deals m) who 5 = 0
  · obtain ⟨r, hr, ho, hmay⟩ := mayF_cases _ _ _ he
    have hok := h.ok m r hr
    obtain ⟨MB, b, LB, EB, hP⟩ := h.at_
    have hm0 := hP.pos m (.inl (by rw [hr]; exact fun e => by cases e))
    have hrt : r.sender = who ∧ r.takers = [] := by
      apply Decidable.byContradiction
      intro hn
      simp only [mayR, if_neg hn] at hmay
      simp at hmay
    have e1 : toldD (deals m) 0 = r.d := by rw [hr]; simp [toldD]
    have e2 : toldF (deals m) 0 = r.frames := by rw [hr]; simp [toldF]
    have e4 : reclO (deals m) who = none := by unfold reclO; rw [if_pos he]
    have e5 : reclE (deals m) who (events m) = events m ++ [5] := by unfold reclE; rw [if_pos he]
    rw [he, e1, e2, e4, e5]
    refine (reclaim_ok hP m who hm r hr ho hrt.1 hrt.2 hN hl (by have := hok.l7; omega) (by have := hok.l8; omega) (by have := hok.l9; omega)).mono ?_
    rintro e w' ⟨v7, v8, v9, rfl, ow', ho', h7, h8, h9, hP', l, hg, hl'⟩
    refine ⟨ow', _, v9, rfl, ⟨v7, v8, rfl, h7, h8⟩, h9, ?_, ho', l, hg, fun x hx hxs => by have := hl' x hx hxs; omega⟩
    rw [noDeal_upd, noteE_upd] at hP'
    exact (h.next (o := none) (N' := N + 1) (by unfold nextL; exact hP') (fun e => by cases e) (fun r hr => by cases hr)).more (by omega)
  · have e1 : toldD (deals m) (mayF (deals m) who 5) = zeroD := by simp [toldD, he]
    have e2 : toldF (deals m) (mayF (deals m) who 5) = [] := by simp [toldF, he]
    have e4 : reclO (deals m) who = deals m := by simp [reclO, he]
    have e5 : reclE (deals m) who (events m) = events m := by simp [reclE, he]
    rw [e1, e2, e4, e5]
    refine (reclaim_no P m who _ w he (may_any (h.alloc _) m who 5 hm hp (.inr (.inr rfl)))).mono ?_
    rintro e w' ⟨rfl, hg⟩
    exact ⟨owN ow w (-2), _, _, rfl, zeroDV _ _, nilRow _ _ _ _, h.same m ((h.kept hg (fun x hx => by cases hx) owN_old).more (by omega)), .quiet hg⟩

/-! ### Drop -/

/-- Begun, and not yet offered. -/
def isSent (o : Option PactR) : Bool := o.any fun r => !r.offered

theorem isSent_some {o : Option PactR} (h : isSent o = true) : ∃ r, o = some r ∧ r.offered = false := by
  cases o with
  | none => simp [isSent] at h
  | some r => exact ⟨r, rfl, by simpa [isSent] using h⟩

theorem isSent_no {o : Option PactR} (h : isSent o = false) : ∀ r, o = some r → r.offered ≠ false := by
  rintro r rfl hr
  simp [isSent, hr] at h

def dropO (o : Option PactR) : Option PactR := if isSent o = true then none else o

def dropE (o : Option PactR) (ev : List Int) : List Int := if isSent o = true then ev ++ [7] else ev

theorem drop_any {w : World} {ow : Nat → Int} {P N : Nat} {g : Nat → Int} {L : List Int} {deals : Int → Option PactR} {events : Int → List Int} (h : AllP w ow P N g L deals events) (m : Int) (hm : (Lit.int .u64 m).wf = true) (hN : N ≤ 90000) (hl : (events m).length ≤ 10000) :
    Calls Try.prog 40 #[.pointer (some ⟨P, 0, none⟩), .int .u64 m] w fun e w' => ∃ ow', e = .returned (.bool (isSent (deals m))) ∧
      AllP w' ow' P (N + 2) g (nextL L m (dropO (deals m))) (updD deals m (dropO (deals m))) (updE events m (dropE (deals m) (events m))) ∧ Kept w w' ow ow' := by
  cases hs : isSent (deals m) with
  | true =>
    obtain ⟨r, hr, ho⟩ := isSent_some hs
    obtain ⟨MB, b, LB, EB, hP⟩ := h.at_
    have hm0 := hP.pos m (.inl (by rw [hr]; exact fun e => by cases e))
    have e4 : dropO (deals m) = none := by unfold dropO; rw [if_pos hs]
    have e5 : dropE (deals m) (events m) = events m ++ [7] := by unfold dropE; rw [if_pos hs]
    rw [e4, e5]
    refine (drop_some hP m hm r hr ho (by omega) hl).mono ?_
    rintro e w' ⟨rfl, ow', ho', hP', l, hg, hl'⟩
    refine ⟨ow', rfl, ?_, ho', l, hg, fun x hx hxs => by have := hl' x hx hxs; omega⟩
    rw [noDeal_upd, noteE_upd] at hP'
    exact (h.next (o := none) (N' := N + 1) (by unfold nextL; exact hP') (fun e => by cases e) (fun r hr => by cases hr)).more (by omega)
  | false =>
    have e4 : dropO (deals m) = deals m := by simp [dropO, hs]
    have e5 : dropE (deals m) (events m) = events m := by simp [dropE, hs]
    rw [e4, e5]
    obtain ⟨MB, b, LB, EB, hP⟩ := h.at_
    refine (drop_no hP m hm (isSent_no hs)).mono ?_
    rintro e w' ⟨rfl, rfl⟩
    exact ⟨ow, rfl, h.same m (h.more (by omega)), .refl _ _⟩

/-! ### Offer -/

/-- All pieces are there. -/
def isFull (o : Option PactR) : Bool := o.any fun r => !r.offered && decide (r.all = r.bytes.length)

def offerO (o : Option PactR) (d : DealR) (fr : List Int) : Option PactR := if isFull o = true then o.map fun r => { r with offered := true, d := d, frames := fr } else o

def offerE (o : Option PactR) (ev : List Int) : List Int := if isFull o = true then ev ++ [2] else ev

theorem offer_any {w : World} {ow : Nat → Int} {P N : Nat} {g : Nat → Int} {L : List Int} {deals : Int → Option PactR} {events : Int → List Int} (h : AllP w ow P N g L deals events) (m : Int) (hm : (Lit.int .u64 m).wf = true) (hN : N ≤ 90000) (hl : (events m).length ≤ 10000)
    (d : DealR) (fr : List Int) {v7 v8 v9 : Value} (h7 : w.ownsRow 0 52 2 v7 d.recvs.length (encPr d.recvs)) (h8 : w.ownsRow 0 55 2 v8 d.spans.length (encPr d.spans)) (h9 : w.ownsRow 0 3 1 v9 fr.length (fr.map (Value.int .i64))) (hl7 : d.recvs.length ≤ 10000) (hl8 : d.spans.length ≤ 10000) (hl9 : fr.length ≤ 10000) :
    Calls Try.prog 36 #[.pointer (some ⟨P, 0, none⟩), .int .u64 m, .agg #[.int .i64 d.kind, .int .i64 d.sender, .bool d.zero, v7, v8], v9] w fun e w' => ∃ ow', e = .returned (.int .i64 (if isFull (deals m) = true then 0 else -2)) ∧
      AllP w' ow' P (N + 2) g (nextL L m (offerO (deals m) d fr)) (updD deals m (offerO (deals m) d fr)) (updE events m (offerE (deals m) (events m))) ∧ Kept w w' ow ow' := by
  obtain ⟨MB, b, LB, EB, hP⟩ := h.at_
  cases hf : isFull (deals m) with
  | true =>
    obtain ⟨r, hr, ho, hb⟩ : ∃ r, deals m = some r ∧ r.offered = false ∧ r.all = r.bytes.length := by
      cases hr : deals m with
      | none => rw [hr] at hf; simp [isFull] at hf
      | some r => rw [hr] at hf; simp [isFull] at hf; exact ⟨r, rfl, hf.1, hf.2⟩
    have hok := h.ok m r hr
    have hmem : m ∈ L := by rw [h.mem, hr]; rfl
    have hm0 := hP.pos m (.inl (by rw [hr]; exact fun e => by cases e))
    have e4 : offerO (deals m) d fr = some { r with offered := true, d := d, frames := fr } := by unfold offerO; rw [if_pos hf, hr]; rfl
    have e5 : offerE (deals m) (events m) = events m ++ [2] := by unfold offerE; rw [if_pos hf]
    rw [e4, e5]
    obtain ⟨all, ha1, ha2, ha3⟩ := hok.all_
    refine (offer_ok hP m hm r hr ho all ha1 ha2 (by omega) (by omega) hl h7 h8 h9 (by omega) (by omega) (by omega)).mono ?_
    rintro e w' ⟨rfl, ow', ho', hP', l, hg, hl'⟩
    refine ⟨ow', rfl, ?_, ho', l, hg, fun x hx hxs => by have := hl' x hx hxs; omega⟩
    rw [setD_upd, noteE_upd] at hP'
    exact (h.next (N' := N + 1) (by unfold nextL; exact hP') (fun _ => hmem) (fun r' hr' => by cases hr'; exact ⟨hl7, hl8, hl9, all, ha1, ha2, ha3⟩)).more (by omega)
  | false =>
    have e4 : offerO (deals m) d fr = deals m := by simp [offerO, hf]
    have e5 : offerE (deals m) (events m) = events m := by simp [offerE, hf]
    rw [e4, e5]
    obtain ⟨t7, q7, rfl⟩ := row_form h7
    obtain ⟨t8, q8, rfl⟩ := row_form h8
    obtain ⟨t9, q9, rfl⟩ := row_form h9
    have hC : Calls Try.prog 36 #[.pointer (some ⟨P, 0, none⟩), .int .u64 m, .agg #[.int .i64 d.kind, .int .i64 d.sender, .bool d.zero, .slice t7 d.recvs.length q7, .slice t8 d.spans.length q8], .slice t9 fr.length q9] w fun e w' => e = .returned (.int .i64 (-2)) ∧ GrowBut w w' [] := by
      cases hs : isSent (deals m) with
      | true =>
        obtain ⟨r, hr, ho⟩ := isSent_some hs
        obtain ⟨all, ha1, ha2, ha3⟩ := (h.ok m r hr).all_
        have hne : r.all ≠ r.bytes.length := fun e => by rw [hr] at hf; simp [isFull, ho, e] at hf
        exact offer_left hP m hm r hr ho all ha1 ha2 (by omega)
      | false => exact offer_no hP m hm (isSent_no hs)
    refine hC.mono ?_
    rintro e w' ⟨rfl, hg⟩
    exact ⟨owN ow w (-2), rfl, h.same m ((h.kept hg (fun x hx => by cases hx) owN_old).more (by omega)), .quiet hg⟩

/-! ### Piece -/

/-- Bytes that may come. -/
def mayPc (o : Option PactR) (s : Int) (ys : List Int) : Bool := o.any fun r => !r.offered && decide (r.sender = s) && decide (ys.length ≠ 0) && decide ((r.bytes.length : Int) + ys.length ≤ r.all)

def pieceO (o : Option PactR) (s : Int) (ys : List Int) : Option PactR := if mayPc o s ys = true then o.map fun r => { r with bytes := r.bytes ++ ys } else o

/-- The last piece. -/
def lastPc (o : Option PactR) (s : Int) (ys : List Int) : Bool := mayPc o s ys && o.any fun r => decide ((r.bytes.length : Int) + ys.length = r.all)

def wholePc (o : Option PactR) (s : Int) (ys : List Int) : List Int := if lastPc o s ys = true then (o.map fun r => r.bytes ++ ys).getD [] else []

def kindPc (o : Option PactR) (s : Int) (ys : List Int) : Int := if lastPc o s ys = true then (o.map PactR.kind).getD 0 else 0

def BytesV (w : World) (ow : Nat → Int) (l : List Int) (v : Value) : Prop := RowOf w ow (-2) 5 1 v l.length (l.map (Value.int .u8))

theorem piece_any {w : World} {ow : Nat → Int} {P N : Nat} {g : Nat → Int} {L : List Int} {deals : Int → Option PactR} {events : Int → List Int} (h : AllP w ow P N g L deals events) (m s : Int) (hm : (Lit.int .u64 m).wf = true)
    (sa : Option Addr) (c : Nat) (ys : List Int) (hn : ys.length ≤ 10000) (hy : 0 < ys.length → ∃ gb off, sa = some ⟨gb, off, none⟩ ∧ ∀ j, j < ys.length → w.cell? ⟨gb, off + j, none⟩ = some (.int .u8 (ys.getD j 0))) :
    Calls Try.prog 35 #[.pointer (some ⟨P, 0, none⟩), .int .u64 m, .int .i64 s, .slice sa ys.length c] w fun e w' => ∃ ow' v, e = .returned (.tuple #[v, .int .i64 (kindPc (deals m) s ys), .bool (lastPc (deals m) s ys), .int .i64 (if mayPc (deals m) s ys = true then 0 else -2)]) ∧ BytesV w' ow' (wholePc (deals m) s ys) v ∧
      AllP w' ow' P N g (nextL L m (pieceO (deals m) s ys)) (updD deals m (pieceO (deals m) s ys)) (updE events m (events m)) ∧ Kept w w' ow ow' := by
  obtain ⟨MB, b, LB, EB, hP⟩ := h.at_
  cases hmay : mayPc (deals m) s ys with
  | true =>
    obtain ⟨r, hr, ho, hs, h0, hle⟩ : ∃ r, deals m = some r ∧ r.offered = false ∧ r.sender = s ∧ ys.length ≠ 0 ∧ (r.bytes.length : Int) + ys.length ≤ r.all := by
      cases hr : deals m with
      | none => rw [hr] at hmay; simp [mayPc] at hmay
      | some r => rw [hr] at hmay; simp only [mayPc, Option.any_some, Bool.and_eq_true, decide_eq_true_eq, Bool.not_eq_true'] at hmay; exact ⟨r, rfl, hmay.1.1.1, hmay.1.1.2, hmay.1.2, hmay.2⟩
    have hok := h.ok m r hr
    have hmem : m ∈ L := by rw [h.mem, hr]; rfl
    have hm0 := hP.pos m (.inl (by rw [hr]; exact fun e => by cases e))
    obtain ⟨all, ha1, ha2, ha3⟩ := hok.all_
    obtain ⟨gb, off, rfl, hcs⟩ := hy (by omega)
    have e4 : pieceO (deals m) s ys = some { r with bytes := r.bytes ++ ys } := by unfold pieceO; rw [if_pos hmay, hr]; rfl
    have hok' : OkR { r with bytes := r.bytes ++ ys } := ⟨hok.l7, hok.l8, hok.l9, all, ha1, ha2, by simp only [List.length_append]; omega⟩
    by_cases hw : r.bytes.length + ys.length = all
    · have e6 : lastPc (deals m) s ys = true := by unfold lastPc; rw [hmay, hr]; simp only [Bool.true_and, Option.any_some, decide_eq_true_eq]; omega
      have e7 : wholePc (deals m) s ys = r.bytes ++ ys := by unfold wholePc; rw [if_pos e6, hr]; rfl
      have e8 : kindPc (deals m) s ys = r.kind := by unfold kindPc; rw [if_pos e6, hr]; rfl
      rw [e4, e6, e7, e8]
      refine (piece_full hP m s hm r hr ho hs all ha1 ha2 gb off c ys (by omega) hw hcs).mono ?_
      rintro e w' ⟨v, rfl, ow', ho', hrow, hP', l, hg, hl'⟩
      have hrow' : BytesV w' ow' (r.bytes ++ ys) v := by unfold BytesV; rw [List.length_append, hw]; exact hrow
      refine ⟨ow', _, rfl, hrow', ?_, ho', l, hg, fun x hx hxs => by have := hl' x hx hxs; omega⟩
      rw [setD_upd] at hP'
      exact h.next (ev := events m) (by unfold nextL; rw [updE_id]; exact hP') (fun _ => hmem) (fun r' hr' => by cases hr'; exact hok')
    · have e6 : lastPc (deals m) s ys = false := by unfold lastPc; rw [hmay, hr]; simp only [Bool.true_and, Option.any_some, decide_eq_false_iff_not]; omega
      have e7 : wholePc (deals m) s ys = [] := by unfold wholePc; rw [e6]; rfl
      have e8 : kindPc (deals m) s ys = 0 := by unfold kindPc; rw [e6]; rfl
      rw [e4, e6, e7, e8]
      refine (piece_part hP m s hm r hr ho hs all ha1 ha2 gb off c ys (by omega) (by omega) hcs).mono ?_
      rintro e w' ⟨rfl, ow', ho', hP', l, hg, hl'⟩
      refine ⟨ow', _, rfl, nilRow _ _ _ _, ?_, ho', l, hg, fun x hx hxs => by have := hl' x hx hxs; omega⟩
      rw [setD_upd] at hP'
      exact h.next (ev := events m) (by unfold nextL; rw [updE_id]; exact hP') (fun _ => hmem) (fun r' hr' => by cases hr'; exact hok')
  | false =>
    have e4 : pieceO (deals m) s ys = deals m := by simp [pieceO, hmay]
    have e6 : lastPc (deals m) s ys = false := by simp [lastPc, hmay]
    have e7 : wholePc (deals m) s ys = [] := by unfold wholePc; rw [e6]; rfl
    have e8 : kindPc (deals m) s ys = 0 := by unfold kindPc; rw [e6]; rfl
    rw [e4, e6, e7, e8]
    have hC : Calls Try.prog 35 #[.pointer (some ⟨P, 0, none⟩), .int .u64 m, .int .i64 s, .slice sa ys.length c] w fun e w' => e = .returned (.tuple #[.slice none 0 0, .int .i64 0, .bool false, .int .i64 (-2)]) ∧ GrowBut w w' [] := by
      cases hs : isSent (deals m) with
      | true =>
        obtain ⟨r, hr, ho⟩ := isSent_some hs
        by_cases hse : r.sender = s
        · obtain ⟨all, ha1, ha2, ha3⟩ := (h.ok m r hr).all_
          refine piece_over hP m s hm r hr ho hse all ha1 ha2 sa ys.length c ha3 ?_ (by omega)
          rw [hr] at hmay
          simp only [mayPc, Option.any_some, ho, hse, Bool.not_false, decide_true, Bool.true_and, Bool.and_eq_false_iff, decide_eq_false_iff_not] at hmay
          omega
        · refine (piece_other hP m s hm r hr ho hse _).mono ?_
          rintro e w' ⟨rfl, rfl⟩
          exact ⟨rfl, .refl _ _⟩
      | false =>
        refine (piece_none hP m s hm (isSent_no hs) _).mono ?_
        rintro e w' ⟨rfl, rfl⟩
        exact ⟨rfl, .refl _ _⟩
    refine hC.mono ?_
    rintro e w' ⟨rfl, hg⟩
    exact ⟨owN ow w (-2), _, rfl, nilRow _ _ _ _, h.same m (h.kept hg (fun x hx => by cases hx) owN_old), .quiet hg⟩

/-! ### Events, Deal, Begin -/

theorem events_any {w : World} {ow : Nat → Int} {P N : Nat} {g : Nat → Int} {L : List Int} {deals : Int → Option PactR} {events : Int → List Int} (h : AllP w ow P N g L deals events) (m : Int) (hm : (Lit.int .u64 m).wf = true) (hm0 : 0 ≤ m) (hl : (events m).length ≤ 10000) :
    Calls Try.prog 42 #[.pointer (some ⟨P, 0, none⟩), .int .u64 m] w fun e w' => ∃ v, e = .returned v ∧ w'.ownsRow w.heap.size 3 1 v (events m).length ((events m).map (Value.int .i64)) ∧ GrowBut w w' [] := by
  obtain ⟨MB, b, LB, EB, hP⟩ := h.at_
  exact events_calls hP m hm hm0 hl

/-- A deal that is offered. -/
def dealO (o : Option PactR) : Option PactR := o.bind fun r => if r.offered then some r else none

theorem deal_any {w : World} {ow : Nat → Int} {P N : Nat} {g : Nat → Int} {L : List Int} {deals : Int → Option PactR} {events : Int → List Int} (h : AllP w ow P N g L deals events) (m : Int) (hm : (Lit.int .u64 m).wf = true) (hN : N ≤ 90000) :
    Calls Try.prog 43 #[.pointer (some ⟨P, 0, none⟩), .int .u64 m] w fun e w' => ∃ vd vt, e = .returned (.tuple #[vd, vt, .bool (dealO (deals m)).isSome]) ∧ DealV w' (owN ow w (-2)) (((dealO (deals m)).map PactR.d).getD zeroD) vd ∧ FramesV w' (owN ow w (-2)) (risen (((dealO (deals m)).map PactR.takers).getD [])) vt ∧ GrowBut w w' [] := by
  obtain ⟨MB, b, LB, EB, hP⟩ := h.at_
  by_cases hd : ∃ r, deals m = some r ∧ r.offered = true
  · obtain ⟨r, hr, ho⟩ := hd
    have hok := h.ok m r hr
    have e1 : dealO (deals m) = some r := by rw [hr]; simp [dealO, ho]
    rw [e1]
    refine (deal_some hP m hm r hr ho hN (by have := hok.l7; omega) (by have := hok.l8; omega)).mono ?_
    rintro e w' ⟨v7, v8, v9, rfl, h7, h8, h9, hg⟩
    exact ⟨_, v9, rfl, ⟨v7, v8, rfl, ⟨row_low h7 (Nat.zero_le _), fun x hx => owN_new (h7.lt x hx).1⟩, ⟨row_low h8 (Nat.zero_le _), fun x hx => owN_new (h8.lt x hx).1⟩⟩, ⟨row_low h9 (Nat.zero_le _), fun x hx => owN_new (h9.lt x hx).1⟩, hg⟩
  · have e1 : dealO (deals m) = none := by
      cases hr : deals m with
      | none => rfl
      | some r =>
        have : r.offered = false := by cases hh : r.offered; rfl; exact absurd ⟨r, hr, hh⟩ hd
        simp [dealO, this]
    rw [e1]
    refine (deal_no hP m hm (fun r hr ho => hd ⟨r, hr, ho⟩)).mono ?_
    rintro e w' ⟨rfl, hg⟩
    have e2 : risen [] = [] := by unfold risen; simp
    refine ⟨_, _, rfl, zeroDV _ _, ?_, hg⟩
    show FramesV w' _ (risen []) _
    rw [e2]
    exact nilRow _ _ _ _

theorem begin_new {w : World} {ow : Nat → Int} {P N : Nat} {g : Nat → Int} {L : List Int} {deals : Int → Option PactR} {events : Int → List Int} (h : AllP w ow P N g L deals events) (s kind all : Nat) (hs : s < 6) (hk1 : 1 ≤ kind) (hk3 : kind ≤ 3) (ha1 : 1 ≤ all) (ha : all ≤ 400) (hN : N ≤ 900) (hf : (ofWho L s).length ≠ 4) (m : Int) (hm : ((s : Int) + 1) * 4294967296 + (g s + 1) = m) (hl : (events m).length ≤ 10000) :
    Calls Try.prog 34 #[.pointer (some ⟨P, 0, none⟩), .int .i64 s, .int .i64 kind, .int .i64 all] w fun e w' => ∃ ow', e = .returned (.tuple #[.int .u64 m, .int .i64 0]) ∧
      AllP w' ow' P (N + 2) (upG g s) (m :: L) (updD deals m (some (newR s kind all))) (updE events m (events m ++ [1])) ∧ Kept w w' ow ow' := by
  obtain ⟨MB, b, LB, EB, hP⟩ := h.at_
  have hgb := hP.marks.gb s
  have hm0 : 0 < m := by omega
  refine (begin_more hP s kind all hs hk1 hk3 ha1 ha hN hf m hm hl).mono ?_
  rintro e w' ⟨rfl, ow', ho', hP', l, hg, hl'⟩
  refine ⟨ow', rfl, ⟨⟨MB, b, LB, EB, by rw [setD_upd, noteE_upd] at hP'; exact hP'⟩, fun x => ?_, fun x r hr => ?_⟩, ho', l, hg, fun x hx hxs => by have := hl' x hx hxs; omega⟩
  · unfold updD
    by_cases e : x = m
    · simp [e]
    · simp [e, h.mem]
  · unfold updD at hr
    split at hr
    · cases hr
      exact ⟨by simp [newR], by simp [newR], by simp [newR], all, rfl, ha, by simp [newR]⟩
    · exact h.ok x r hr

theorem begin_none {w : World} {ow : Nat → Int} {P N : Nat} {g : Nat → Int} {L : List Int} {deals : Int → Option PactR} {events : Int → List Int} (h : AllP w ow P N g L deals events) (s kind all : Nat) (hs : s < 6) (hk1 : 1 ≤ kind) (hk3 : kind ≤ 3) (ha1 : 1 ≤ all) (ha : all ≤ 400) (hN : N ≤ 900) (hf : (ofWho L s).length = 4) :
    Calls Try.prog 34 #[.pointer (some ⟨P, 0, none⟩), .int .i64 s, .int .i64 kind, .int .i64 all] w fun e w' => e = .returned (.tuple #[.int .u64 0, .int .i64 (-3)]) ∧ GrowBut w w' [] := by
  obtain ⟨MB, b, LB, EB, hP⟩ := h.at_
  exact begin_full hP s kind all hs hk1 hk3 ha1 ha hN hf

theorem new_any (w : World) : Calls Try.prog 33 #[] w fun e w' => ∃ P ow', e = .returned (.pointer (some ⟨P, 0, none⟩)) ∧ AllP w' ow' P 0 (fun _ => 0) [] (fun _ => none) (fun _ => []) ∧ (∀ x, x < w.heap.size → ow' x = -2) ∧ GrowBut w w' [] := by
  refine (pactNew_calls w (fun _ => -2)).mono ?_
  rintro e w' ⟨P, MB, b, LB, EB, rfl, hP, hg⟩
  exact ⟨P, _, rfl, ⟨⟨MB, b, LB, EB, hP⟩, fun x => by simp, fun x r hr => by cases hr⟩, fun x hx => owN_old x hx, hg⟩

end Go.Proofs.Ytcoedmiichppdaa


/-
  Package pact: one deal alone.
-/
namespace Go.Proofs.Ytcoedmiichppdaa
open Go Go.RowKit Go.Maps Go.Am
set_option linter.unusedVariables false
set_option linter.unusedSimpArgs false

/-- Of the deals at P, m's is o, and its events are ev. -/
def One (w : World) (ow : Nat → Int) (P : Nat) (m : Int) (N : Nat) (o : Option PactR) (ev : List Int) : Prop := ∃ g L deals events, AllP w ow P N g L deals events ∧ deals m = o ∧ events m = ev

theorem One.kept {w w' : World} {ow ow' : Nat → Int} {P N : Nat} {m : Int} {o : Option PactR} {ev : List Int} (h : One w ow P m N o ev) {l : List Nat} (hg : GrowBut w w' l) (hl : ∀ x ∈ l, x < w.heap.size → ow x = -2) (ho : ∀ x, x < w.heap.size → ow' x = ow x) : One w' ow' P m N o ev := by
  obtain ⟨g, L, deals, events, hA, h1, h2⟩ := h
  exact ⟨g, L, deals, events, hA.kept hg hl ho, h1, h2⟩

theorem One.quiet {w w' : World} {ow : Nat → Int} {P N : Nat} {m : Int} {o : Option PactR} {ev : List Int} (h : One w ow P m N o ev) (hg : GrowBut w w' []) : One w' (owN ow w (-2)) P m N o ev := h.kept hg (fun x hx => by cases hx) owN_old

theorem One.more {w : World} {ow : Nat → Int} {P N N' : Nat} {m : Int} {o : Option PactR} {ev : List Int} (h : One w ow P m N o ev) (hn : N ≤ N') : One w ow P m N' o ev := by
  obtain ⟨g, L, deals, events, hA, h1, h2⟩ := h
  exact ⟨g, L, deals, events, hA.more hn, h1, h2⟩

theorem may_one {w : World} {ow : Nat → Int} {P N : Nat} {m : Int} {o : Option PactR} {ev : List Int} (h : One w ow P m N o ev) (who e : Int) (hm : (Lit.int .u64 m).wf = true) (hp : (Lit.int .i64 who).wf = true) (hev : e = 3 ∨ e = 4 ∨ e = 5) :
    Calls Try.prog 55 #[.pointer (some ⟨P, 0, none⟩), .int .u64 m, .int .i64 who, .int .i64 e] w fun r w' => r = .returned (.int .i64 (mayF o who e)) ∧ GrowBut w w' [] := by
  obtain ⟨g, L, deals, events, hA, rfl, rfl⟩ := h
  exact may_any hA m who e hm hp hev

theorem take_one {w : World} {ow : Nat → Int} {P N : Nat} {m : Int} {o : Option PactR} {ev : List Int} (h : One w ow P m N o ev) (who : Int) (hm : (Lit.int .u64 m).wf = true) (hp : (Lit.int .i64 who).wf = true) (hN : N ≤ 90000) (hl : ev.length ≤ 10000) :
    Calls Try.prog 37 #[.pointer (some ⟨P, 0, none⟩), .int .u64 m, .int .i64 who] w fun e w' => ∃ ow' vd vf, e = .returned (.tuple #[vd, vf, .int .i64 (takeP o who), .int .i64 (mayF o who 3)]) ∧ DealV w' ow' (toldD o (mayF o who 3)) vd ∧ FramesV w' ow' (takeF o who) vf ∧
      One w' ow' P m (N + 2) (takeO o who) (takeE o who ev) ∧ Kept w w' ow ow' := by
  obtain ⟨g, L, deals, events, hA, rfl, rfl⟩ := h
  refine (take_any hA m who hm hp hN hl).mono ?_
  rintro e w' ⟨ow', vd, vf, rfl, h1, h2, h3, h4⟩
  exact ⟨ow', vd, vf, rfl, h1, h2, ⟨_, _, _, _, h3, updD_same _ _ _, updE_same _ _ _⟩, h4⟩

theorem leave_one {w : World} {ow : Nat → Int} {P N : Nat} {m : Int} {o : Option PactR} {ev : List Int} (h : One w ow P m N o ev) (who : Int) (hm : (Lit.int .u64 m).wf = true) (hp : (Lit.int .i64 who).wf = true) (hN : N ≤ 90000) (hl : ev.length ≤ 10000) :
    Calls Try.prog 38 #[.pointer (some ⟨P, 0, none⟩), .int .u64 m, .int .i64 who] w fun e w' => ∃ ow' vd vf, e = .returned (.tuple #[vd, vf, .int .i64 (mayF o who 4)]) ∧ DealV w' ow' (toldD o (mayF o who 4)) vd ∧ FramesV w' ow' (toldF o (mayF o who 4)) vf ∧
      One w' ow' P m (N + 2) (leaveO o who) (leaveE o who ev) ∧ Kept w w' ow ow' := by
  obtain ⟨g, L, deals, events, hA, rfl, rfl⟩ := h
  refine (leave_any hA m who hm hp hN hl).mono ?_
  rintro e w' ⟨ow', vd, vf, rfl, h1, h2, h3, h4⟩
  exact ⟨ow', vd, vf, rfl, h1, h2, ⟨_, _, _, _, h3, updD_same _ _ _, updE_same _ _ _⟩, h4⟩

theorem recl_one {w : World} {ow : Nat → Int} {P N : Nat} {m : Int} {o : Option PactR} {ev : List Int} (h : One w ow P m N o ev) (who : Int) (hm : (Lit.int .u64 m).wf = true) (hp : (Lit.int .i64 who).wf = true) (hN : N ≤ 90000) (hl : ev.length ≤ 10000) :
    Calls Try.prog 39 #[.pointer (some ⟨P, 0, none⟩), .int .u64 m, .int .i64 who] w fun e w' => ∃ ow' vd vf, e = .returned (.tuple #[vd, vf, .int .i64 (mayF o who 5)]) ∧ DealV w' ow' (toldD o (mayF o who 5)) vd ∧ FramesV w' ow' (toldF o (mayF o who 5)) vf ∧
      One w' ow' P m (N + 2) (reclO o who) (reclE o who ev) ∧ Kept w w' ow ow' := by
  obtain ⟨g, L, deals, events, hA, rfl, rfl⟩ := h
  refine (recl_any hA m who hm hp hN hl).mono ?_
  rintro e w' ⟨ow', vd, vf, rfl, h1, h2, h3, h4⟩
  exact ⟨ow', vd, vf, rfl, h1, h2, ⟨_, _, _, _, h3, updD_same _ _ _, updE_same _ _ _⟩, h4⟩

theorem drop_one {w : World} {ow : Nat → Int} {P N : Nat} {m : Int} {o : Option PactR} {ev : List Int} (h : One w ow P m N o ev) (hm : (Lit.int .u64 m).wf = true) (hN : N ≤ 90000) (hl : ev.length ≤ 10000) :
    Calls Try.prog 40 #[.pointer (some ⟨P, 0, none⟩), .int .u64 m] w fun e w' => ∃ ow', e = .returned (.bool (isSent o)) ∧ One w' ow' P m (N + 2) (dropO o) (dropE o ev) ∧ Kept w w' ow ow' := by
  obtain ⟨g, L, deals, events, hA, rfl, rfl⟩ := h
  refine (drop_any hA m hm hN hl).mono ?_
  rintro e w' ⟨ow', rfl, h3, h4⟩
  exact ⟨ow', rfl, ⟨_, _, _, _, h3, updD_same _ _ _, updE_same _ _ _⟩, h4⟩

theorem offer_one {w : World} {ow : Nat → Int} {P N : Nat} {m : Int} {o : Option PactR} {ev : List Int} (h : One w ow P m N o ev) (hm : (Lit.int .u64 m).wf = true) (hN : N ≤ 90000) (hl : ev.length ≤ 10000)
    (d : DealR) (fr : List Int) {v7 v8 v9 : Value} (h7 : w.ownsRow 0 52 2 v7 d.recvs.length (encPr d.recvs)) (h8 : w.ownsRow 0 55 2 v8 d.spans.length (encPr d.spans)) (h9 : w.ownsRow 0 3 1 v9 fr.length (fr.map (Value.int .i64))) (hl7 : d.recvs.length ≤ 10000) (hl8 : d.spans.length ≤ 10000) (hl9 : fr.length ≤ 10000) :
    Calls Try.prog 36 #[.pointer (some ⟨P, 0, none⟩), .int .u64 m, .agg #[.int .i64 d.kind, .int .i64 d.sender, .bool d.zero, v7, v8], v9] w fun e w' => ∃ ow', e = .returned (.int .i64 (if isFull o = true then 0 else -2)) ∧
      One w' ow' P m (N + 2) (offerO o d fr) (offerE o ev) ∧ Kept w w' ow ow' := by
  obtain ⟨g, L, deals, events, hA, rfl, rfl⟩ := h
  refine (offer_any hA m hm hN hl d fr h7 h8 h9 hl7 hl8 hl9).mono ?_
  rintro e w' ⟨ow', rfl, h3, h4⟩
  exact ⟨ow', rfl, ⟨_, _, _, _, h3, updD_same _ _ _, updE_same _ _ _⟩, h4⟩

theorem piece_one {w : World} {ow : Nat → Int} {P N : Nat} {m : Int} {o : Option PactR} {ev : List Int} (h : One w ow P m N o ev) (s : Int) (hm : (Lit.int .u64 m).wf = true)
    (sa : Option Addr) (c : Nat) (ys : List Int) (hn : ys.length ≤ 10000) (hy : 0 < ys.length → ∃ gb off, sa = some ⟨gb, off, none⟩ ∧ ∀ j, j < ys.length → w.cell? ⟨gb, off + j, none⟩ = some (.int .u8 (ys.getD j 0))) :
    Calls Try.prog 35 #[.pointer (some ⟨P, 0, none⟩), .int .u64 m, .int .i64 s, .slice sa ys.length c] w fun e w' => ∃ ow' v, e = .returned (.tuple #[v, .int .i64 (kindPc o s ys), .bool (lastPc o s ys), .int .i64 (if mayPc o s ys = true then 0 else -2)]) ∧ BytesV w' ow' (wholePc o s ys) v ∧
      One w' ow' P m N (pieceO o s ys) ev ∧ Kept w w' ow ow' := by
  obtain ⟨g, L, deals, events, hA, rfl, rfl⟩ := h
  refine (piece_any hA m s hm sa c ys hn hy).mono ?_
  rintro e w' ⟨ow', v, rfl, h2, h3, h4⟩
  exact ⟨ow', v, rfl, h2, ⟨_, _, _, _, h3, updD_same _ _ _, updE_same _ _ _⟩, h4⟩

theorem events_one {w : World} {ow : Nat → Int} {P N : Nat} {m : Int} {o : Option PactR} {ev : List Int} (h : One w ow P m N o ev) (hm : (Lit.int .u64 m).wf = true) (hm0 : 0 ≤ m) (hl : ev.length ≤ 10000) :
    Calls Try.prog 42 #[.pointer (some ⟨P, 0, none⟩), .int .u64 m] w fun e w' => ∃ v, e = .returned v ∧ w'.ownsRow w.heap.size 3 1 v ev.length (ev.map (Value.int .i64)) ∧ GrowBut w w' [] := by
  obtain ⟨g, L, deals, events, hA, rfl, rfl⟩ := h
  exact events_any hA m hm hm0 hl

theorem deal_one {w : World} {ow : Nat → Int} {P N : Nat} {m : Int} {o : Option PactR} {ev : List Int} (h : One w ow P m N o ev) (hm : (Lit.int .u64 m).wf = true) (hN : N ≤ 90000) :
    Calls Try.prog 43 #[.pointer (some ⟨P, 0, none⟩), .int .u64 m] w fun e w' => ∃ vd vt, e = .returned (.tuple #[vd, vt, .bool (dealO o).isSome]) ∧ DealV w' (owN ow w (-2)) (((dealO o).map PactR.d).getD zeroD) vd ∧ FramesV w' (owN ow w (-2)) (risen (((dealO o).map PactR.takers).getD [])) vt ∧ GrowBut w w' [] := by
  obtain ⟨g, L, deals, events, hA, rfl, rfl⟩ := h
  exact deal_any hA m hm hN

/-- The first deal of a sender. -/
theorem begin_one {w : World} {ow : Nat → Int} {P : Nat} (h : AllP w ow P 0 (fun _ => 0) [] (fun _ => none) (fun _ => [])) (s kind all : Nat) (hs : s < 6) (hk1 : 1 ≤ kind) (hk3 : kind ≤ 3) (ha1 : 1 ≤ all) (ha : all ≤ 400) (m : Int) (hm : ((s : Int) + 1) * 4294967296 + 1 = m) :
    Calls Try.prog 34 #[.pointer (some ⟨P, 0, none⟩), .int .i64 s, .int .i64 kind, .int .i64 all] w fun e w' => ∃ ow', e = .returned (.tuple #[.int .u64 m, .int .i64 0]) ∧
      One w' ow' P m 2 (some (newR s kind all)) [1] ∧ Kept w w' ow ow' := by
  refine (begin_new h s kind all hs hk1 hk3 ha1 ha (by omega) (by simp [ofWho]) m (by simpa using hm) (by simp)).mono ?_
  rintro e w' ⟨ow', rfl, h3, h4⟩
  exact ⟨ow', rfl, ⟨_, _, _, _, h3, updD_same _ _ _, updE_same _ _ _⟩, h4⟩

/-- A deal of the law's own lies at D. -/
def DealAt (w : World) (ow : Nat → Int) (D : Nat) (d : DealR) : Prop := ow D = -2 ∧ ∃ v7 v8, w.cell? ⟨D, 0, none⟩ = some (.int .i64 d.kind) ∧ w.cell? ⟨D, 1, none⟩ = some (.int .i64 d.sender) ∧ w.cell? ⟨D, 2, none⟩ = some (.bool d.zero) ∧ w.cell? ⟨D, 3, none⟩ = some v7 ∧ w.cell? ⟨D, 4, none⟩ = some v8 ∧ RowOf w ow (-2) 52 2 v7 d.recvs.length (encPr d.recvs) ∧ RowOf w ow (-2) 55 2 v8 d.spans.length (encPr d.spans)

theorem DealAt.kept {w w' : World} {ow ow' : Nat → Int} {D : Nat} {d : DealR} (h : DealAt w ow D d) (hk : Kept w w' ow ow') : DealAt w' ow' D d := by
  obtain ⟨ho, v7, v8, c0, c1, c2, c3, c4, h7, h8⟩ := h
  have hD := cell_lt c0
  exact ⟨by rw [hk.old hD]; exact ho, v7, v8, hk.cell c0 ho, hk.cell c1 ho, hk.cell c2 ho, hk.cell c3 ho, hk.cell c4 ho, hk.row h7, hk.row h8⟩

/-- A deal of one receiver, of one row, laid. -/
theorem dealLit (w : World) (ow : Nat → Int) (k s a b c d : Int) (hw : w.heap.size ≤ w.heap.size) : DealAt (((w.alloc (.cells #[.int .i64 a, .int .i64 b] 52)).alloc (.cells #[.int .i64 c, .int .i64 d] 55)).alloc (.cells #[.int .i64 k, .int .i64 s, .bool false, .slice (some ⟨w.heap.size, 0, none⟩) 1 1, .slice (some ⟨w.heap.size + 1, 0, none⟩) 1 1] 58)) (owN ow w (-2)) (w.heap.size + 2) ⟨k, s, false, [(a, b)], [(c, d)]⟩ := by
  have e1 : (w.alloc (.cells #[.int .i64 a, .int .i64 b] 52)).heap.size = w.heap.size + 1 := by go_simp
  have r7 := ((World.ownsRow_lit (base := 0) (size := 2) (e := 52) w #[.int .i64 a, .int .i64 b] 1 (by omega) (by unfold maxLen; omega) rfl).alloc (.cells #[.int .i64 c, .int .i64 d] 55)).alloc (.cells #[.int .i64 k, .int .i64 s, .bool false, .slice (some ⟨w.heap.size, 0, none⟩) 1 1, .slice (some ⟨w.heap.size + 1, 0, none⟩) 1 1] 58)
  have r8 := (World.ownsRow_lit (base := 0) (size := 2) (e := 55) (w.alloc (.cells #[.int .i64 a, .int .i64 b] 52)) #[.int .i64 c, .int .i64 d] 1 (by omega) (by unfold maxLen; omega) rfl).alloc (.cells #[.int .i64 k, .int .i64 s, .bool false, .slice (some ⟨w.heap.size, 0, none⟩) 1 1, .slice (some ⟨w.heap.size + 1, 0, none⟩) 1 1] 58)
  rw [e1] at r8
  refine ⟨owN_new (by omega), _, _, by go_simp, by go_simp, by go_simp, by go_simp, by go_simp, ⟨r7, fun x hx => ?_⟩, ⟨r8, fun x hx => ?_⟩⟩
  · simp [Value.ownBlock] at hx; subst hx; exact owN_new (by omega)
  · simp [Value.ownBlock] at hx; subst hx; exact owN_new (by omega)

end Go.Proofs.Ytcoedmiichppdaa
