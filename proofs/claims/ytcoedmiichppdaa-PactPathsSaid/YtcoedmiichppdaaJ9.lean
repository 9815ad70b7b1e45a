/-
  Package pact: Piece.
-/
import Derived.Test.YtcoedmiichppdaaJ8
import Derived.WalkMore
import Derived.ScopeJumps

namespace Go.Proofs.Ytcoedmiichppdaa
open Go Go.RowKit Go.Maps Go.Am
set_option linter.unusedVariables false
set_option linter.unusedSimpArgs false

/-- A deal's own blocks alone are turned. -/
theorem PactsAt.change {w w' : World} {ow ow' : Nat → Int} {P MB b LB EB N : Nat} {g : Nat → Int} {L : List Int} {deals : Int → Option PactR} {events : Int → List Int} {l : List Nat} (h : PactsAt w ow P MB b LB EB N g L deals events) {m : Int} (hm : (Lit.int .u64 m).wf = true) {r r' : PactR} {X : Nat} (hd : deals m = some r)
    (hlk : (Instr.lookup 113 (.map (some LB)) (.int .u64 m) false).run Try.prog w = .ok (.pointer (some ⟨X, 0, none⟩)) w) (hg : GrowBut w w' l) (hl : ∀ x ∈ l, x < w.heap.size → ow x = m) (hX : PactAt w' ow' m X N r') (ho : ∀ x, x < w.heap.size → ow' x = ow x) :
    PactsAt w' ow' P MB b LB EB N g L (setD deals m r') events := by
  have hm0 := h.pos m (.inl (by rw [hd]; exact fun e => by cases e))
  obtain ⟨o1, o2, o3, o4, o5⟩ := h.own
  obtain ⟨fl, htl, hdl⟩ := h.tl
  obtain ⟨fe, hte, hev⟩ := h.te
  have hP := cell_lt h.p0
  have hM := h.marks.lt
  have hb := h.marks.blt
  have hL := htl.blt
  have hE := hte.blt
  have hnot : ∀ y, y < w.heap.size → ow y = -1 → y ∉ l := fun y h1 h2 hm => by have := hl y hm h1; omega
  refine ⟨hg.cell h.p0 (hnot P hP o1), hg.cell h.p1 (hnot P hP o1), hg.cell h.p2 (hnot P hP o1), h.marks.kept hg (hnot MB hM o2) (hnot b hb o3), ?_, h.ne, ⟨fl, htl.kept hg (hnot LB hL o4), fun k => ?_⟩, ⟨fe, hte.kept hg (hnot EB hE o5), fun k hk => (hev k hk).step hg (fun x hx hs => by have := hl x hx hs; omega) ho⟩, fun k hk => ?_⟩
  · rw [ho P hP, ho MB hM, ho b hb, ho LB hL, ho EB hE]; exact ⟨o1, o2, o3, o4, o5⟩
  · by_cases e : k = m
    · subst e
      have h2 : setD deals k r' k = some r' := by simp [setD]
      rw [h2]
      have hk := hdl k
      rw [hd] at hk
      obtain ⟨X', h1, _⟩ := hk
      have hlk' := htl.look (t := 113) (e := 120) lawU Try.underlying33 Try.underlying113 (zeroPp w) hm
      rw [h1, hlk] at hlk'
      simp at hlk'
      subst hlk'
      exact ⟨X, h1, hX⟩
    · have h2 : setD deals m r' k = deals k := by simp [setD, e]
      rw [h2]
      have hk := hdl k
      cases hd : deals k with
      | none => rw [hd] at hk; exact hk
      | some r =>
        rw [hd] at hk
        exact DealSays.step (x := some r) hk hg (fun x hx hs => by have := hl x hx hs; omega) ho (Nat.le_refl N)
  · by_cases e : k = m
    · subst e; exact hm0
    · exact h.pos k (by simpa [setD, e] using hk)

theorem RowOf.other {w w' : World} {ow ow' : Nat → Int} {m : Int} {e : TypeId} {size : Nat} {v : Value} {n : Nat} {xs : List Value} {l : List Nat} (h : RowOf w ow m e size v n xs) (hg : GrowBut w w' l) (hl : ∀ x ∈ l, ¬ Typed w x e) (ho : ∀ x, x < w.heap.size → ow' x = ow x) : RowOf w' ow' m e size v n xs := by
  have hlt := h.1.lt
  exact ⟨hg.row h.1 (fun j hj hm => hl j hm (Typed.of_row h.1 hj)), fun g hg' => by rw [ho g (hlt g hg').2]; exact h.2 g hg'⟩

/-- More bytes of it came. -/
theorem PactAt.pieced {w w' : World} {ow ow' : Nat → Int} {m : Int} {X N Y : Nat} {r : PactR} {l : List Nat} {bytes' : List Int} (h : PactAt w ow m X N r) (hY : w.cell? ⟨X, 2, none⟩ = some (.pointer (some ⟨Y, 0, none⟩))) (hg : GrowBut w w' l) (hl : ∀ x ∈ l, ow x = m ∧ (Typed w x 154 ∨ Typed w x 5)) (hP : PiecesAt w' ow' m Y bytes' r.all) (ho : ∀ x, x < w.heap.size → ow' x = ow x) :
    PactAt w' ow' m X N { r with bytes := bytes' } := by
  have hX := cell_lt h.c0
  have hno : ∀ e, e ≠ 154 → e ≠ 5 → ∀ x ∈ l, ¬ Typed w x e := fun e h1 h2 x hx ht => by
    rcases (hl x hx).2 with h3 | h3
    · exact Typed.ne ht h3 h1 rfl
    · exact Typed.ne ht h3 h2 rfl
  have hn : X ∉ l := fun hm => hno _ (by decide) (by decide) X hm h.ty
  obtain ⟨v7, h7, h7'⟩ := h.c7
  obtain ⟨v8, h8, h8'⟩ := h.c8
  obtain ⟨v9, h9, h9'⟩ := h.c9
  obtain ⟨T, hT, hTo, hTt⟩ := h.c10
  have hTl := hTt.blt
  have hnT : T ∉ l := fun hm => by
    rcases (hl T hm).2 with h3 | h3
    · exact h3.ne_tab hTt rfl
    · exact h3.ne_tab hTt rfl
  exact ⟨by rw [ho X hX]; exact h.own, h.ty.kept hg hn, hg.cell h.c0 hn, hg.cell h.c1 hn, ⟨Y, hg.cell hY hn, hP⟩, hg.cell h.c3 hn, hg.cell h.c4 hn, hg.cell h.c5 hn, hg.cell h.c6 hn,
    ⟨v7, hg.cell h7 hn, h7'.other hg (hno _ (by decide) (by decide)) ho⟩, ⟨v8, hg.cell h8 hn, h8'.other hg (hno _ (by decide) (by decide)) ho⟩, ⟨v9, hg.cell h9 hn, h9'.other hg (hno _ (by decide) (by decide)) ho⟩, ⟨T, hg.cell hT hn, by rw [ho T hTl]; exact hTo, hTt.kept hg hnT⟩, h.nd, fun i hi => hg.frozen hX (h.fz i hi) hn⟩

set_option maxRecDepth 100000 in
set_option maxHeartbeats 4000000 in
theorem piece_whole {w : World} {ow : Nat → Int} {P MB b LB EB N : Nat} {g : Nat → Int} {L : List Int} {deals : Int → Option PactR} {events : Int → List Int} (h : PactsAt w ow P MB b LB EB N g L deals events) (m s : Int) (hm : (Lit.int .u64 m).wf = true) (r : PactR) (hd : deals m = some r) (hof : r.offered = false) (hs : r.sender = s) (all : Nat) (hall : r.all = all) (ha : all ≤ 400)
    (gb off c : Nat) (ys : List Int) (h0 : 0 < ys.length) (hb : r.bytes.length + ys.length = all) (hy : ∀ j, j < ys.length → w.cell? ⟨gb, off + j, none⟩ = some (.int .u8 (ys.getD j 0))) :
    Calls Try.prog 35 #[.pointer (some ⟨P, 0, none⟩), .int .u64 m, .int .i64 s, .slice (some ⟨gb, off, none⟩) ys.length c] w fun e w' => ∃ v, e = .returned (.tuple #[v, .int .i64 r.kind, .bool true, .int .i64 0]) ∧ w'.ownsRow w.heap.size 5 1 v all ((r.bytes ++ ys).map (Value.int .u8)) ∧
      ∃ ow', (∀ x, x < w.heap.size → ow' x = ow x) ∧ PactsAt w' ow' P MB b LB EB N g L (setD deals m { r with bytes := r.bytes ++ ys }) events ∧ ∃ l, GrowBut w w' l ∧ ∀ x ∈ l, x < w.heap.size → ow x = m := by
  obtain ⟨X, hX, hlk, hO⟩ := of_some h m hm false r hd hof
  obtain ⟨Y, hY, hPc⟩ := hX.c2
  have c0 := hX.c0
  rw [hs] at c0
  have c1 := hX.c1
  have hPc0 := hPc
  rw [hall] at hPc0
  have hA := add_ok Y ow m r.bytes all gb off c ys w hPc0 ha (by omega) h0 hy
  rw [hb, decide_eq_true rfl] at hA
  go_enter Try.func35, Try.ntmps35
  go_upto_region 7 with (first
    | (go_at_call 73; (refine hO.mono ?_; clear hO; rintro e w1 ⟨rfl, hw1⟩; rw [hw1]; clear hw1 w1))
    | (go_at_call 74; (refine hA.mono ?_; clear hA; rintro e w1 ⟨rfl, hP1, l1, hg1, hl1⟩))
    | fail)
  have hXp := hX.pieced (bytes' := r.bytes ++ ys) hY hg1 hl1 (hall ▸ hP1) owN_old
  have hfin := h.change hm hd hlk hg1 (fun x hx _ => (hl1 x hx).1) hXp owN_old
  have hnX : X ∉ l1 := fun hx => by
    rcases (hl1 X hx).2 with h3 | h3
    · exact Typed.ne hX.ty h3 (by decide) rfl
    · exact Typed.ne hX.ty h3 (by decide) rfl
  have d0 := GrowBut.drew w1 []
  have cY : w1.drew.cell? ⟨X, 2, none⟩ = some (.pointer (some ⟨Y, 0, none⟩)) := hg1.cell hY hnX
  have cK : w1.drew.cell? ⟨X, 1, none⟩ = some (.int .i64 r.kind) := hg1.cell c1 hnX
  have hB := bytes_calls Y (owN ow w m) m (r.bytes ++ ys) all w1.drew (hP1.step d0 (fun x hx => by cases hx) (fun _ _ => rfl)) (by rw [List.length_append]; omega) (by rw [List.length_append]; omega)
  have hbl : (r.bytes ++ ys).length = all := by rw [List.length_append]; exact hb
  rw [hbl] at hB
  clear hX hXp hPc hPc0 hP1 hY c1 c0
  obtain ⟨bs, hbs⟩ : ∃ bs, r.bytes ++ ys = bs := ⟨_, rfl⟩
  obtain ⟨rk, hrk⟩ : ∃ rk, r.kind = rk := ⟨_, rfl⟩
  rw [hbs] at hB
  rw [hrk] at cK
  go_region_with (first
    | (go_at_call 75; (refine hB.mono ?_; clear hB; rintro e w2 ⟨v2, rfl, hrow2, hg2⟩; have cK2 := hg2.cell cK (by simp)))
    | fail)
  all_goals go_wp2_with fail
  all_goals (try simp only [Exit.inBlock, Exit.then])
  all_goals refine bodyPost_ret_by (v := .tuple #[v2, .int .i64 rk, .bool true, .int .i64 0]) (by simp only [results, Try.f35]; go_simp) rfl ?_
  all_goals subst hbs hrk
  all_goals exact ⟨v2, rfl, row_low hrow2 (by have := hg1.size; simpa using this), _, owN_old, hfin.step (d0.trans hg2) (fun x hx => by cases hx) (fun _ _ => rfl), l1, hg1.trans ((d0.trans hg2).mono (fun x hx => by cases hx)), fun x hx _ => (hl1 x hx).1⟩

end Go.Proofs.Ytcoedmiichppdaa


/-
  Package pact: slices.Clone at []Recv, []Span.
-/
namespace Go.Proofs.Ytcoedmiichppdaa
open Go Go.RowKit Go.Maps Go.Am
set_option linter.unusedVariables false
set_option linter.unusedSimpArgs false

theorem encPr_len (l : List (Int × Int)) : (encPr l).length = l.length * 2 := by
  induction l with
  | nil => rfl
  | cons x l ih => simp only [encPr, List.flatMap_cons, List.length_append, List.length_cons, List.length_nil] at ih ⊢; omega

theorem encPr_one (l : List (Int × Int)) : ∀ u ∈ encPr l, u.oneCell' = true := fun u hu => by
  obtain ⟨x, _, hx⟩ := List.mem_flatMap.1 hu
  simp at hx
  rcases hx with rfl | rfl <;> rfl

theorem infoR : (Try.prog.info? 52).map (fun i => (i.zero, i.size, i.bytes)) = some (some (.agg #[.int .i64 0, .int .i64 0]), 2, 16) := by kernel_rfl

set_option maxRecDepth 100000 in
set_option maxHeartbeats 2000000 in
theorem cloneR {base : Nat} {v : Value} {zs : List (Int × Int)} {w : World} (h : w.ownsRow base 52 2 v zs.length (encPr zs)) (hl : zs.length ≤ 100000) :
    Calls Try.prog 96 #[v] w fun e w' => ∃ v', e = .returned v' ∧ w'.ownsRow w.heap.size 52 2 v' zs.length (encPr zs) ∧ GrowBut w w' [] := by
  obtain ⟨i0, hi, hz0, hz1, hz2⟩ := info_parts infoR
  have q : ∀ (w : World) (a : Option Addr) (n c n' c' : Nat), (binOp .eql 53 (.slice a n c) (.slice none n' c')).run Try.prog w = .ok (.bool a.isNone) w := fun w a n c n' c' => Lib.run_eql_slice_nil w _ _ a n c n' c' Try.underlying53
  rcases h.2 with ⟨rfl, h1⟩ | ⟨g, cap, cur, rfl, hbase, hgb, r1, r2, r3, r4⟩
  · have hz : encPr zs = [] := by
      have := encPr_len zs
      rw [h1] at this
      exact List.length_eq_zero_iff.1 (by omega)
    rw [hz, h1]
    go_enter Try.func96, Try.ntmps96
    go_wp2_with fail
    go_ret
    exact ⟨_, rfl, World.ownsRow_nil _ _ _ _, .refl _ _⟩
  · have hga := GrowBut.alloc w (.cells #[] 52) []
    have hlit := World.ownsRow_lit (base := w.heap.size) (e := 52) (size := 2) w #[] 0 (Nat.le_refl _) (by unfold maxLen; omega) rfl
    have hnews : ∀ (j : Nat) u, (encPr zs)[j]? = some u → (w.alloc (.cells #[] 52)).cell? ((⟨g, 0, none⟩ : Addr).add j) = some u := fun j u hu => by
      have hj : j < zs.length * 2 := by
        obtain ⟨hj, _⟩ := List.getElem?_eq_some_iff.1 hu
        rw [← encPr_len]; exact hj
      rw [add_zeroP]
      exact hga.cell (by rw [h.cellAt j hj]; exact hu) (by simp)
    have hlen := encPr_len zs
    have hone := encPr_one zs
    clear r1 r2 r3 r4 h
    generalize encPr zs = cs at *
    generalize zs.length = n at *
    go_enter Try.func96, Try.ntmps96
    go_wp2_with (first
      | (at_builtin; (go_loud (refine wpList_append_own _ rfl _ _ 53 rfl w.heap.size 52 i0 (.agg #[.int .i64 0, .int .i64 0]) 2 16 Try.underlying53 hi hz0 hz1 hz2 rfl (by decide) _ _ _ rfl hlit ⟨g, 0, none⟩ n cap cs rfl hlen hnews hone (by unfold maxLen; omega) (by omega) (by simp) ?_); intro v' w4 hown4 hg4 hnil4; go_frame))
      | fail)
    go_ret
    exact ⟨v', rfl, by simpa using hown4, hga.from (GrowBut.of_rowZ (o := some w.heap.size) hg4) (fun x hx => .inr (by simp at hx; omega))⟩

theorem infoS : (Try.prog.info? 55).map (fun i => (i.zero, i.size, i.bytes)) = some (some (.agg #[.int .i64 0, .int .i64 0]), 2, 16) := by kernel_rfl

set_option maxRecDepth 100000 in
set_option maxHeartbeats 2000000 in
theorem cloneS {base : Nat} {v : Value} {zs : List (Int × Int)} {w : World} (h : w.ownsRow base 55 2 v zs.length (encPr zs)) (hl : zs.length ≤ 100000) :
    Calls Try.prog 97 #[v] w fun e w' => ∃ v', e = .returned v' ∧ w'.ownsRow w.heap.size 55 2 v' zs.length (encPr zs) ∧ GrowBut w w' [] := by
  obtain ⟨i0, hi, hz0, hz1, hz2⟩ := info_parts infoS
  have q : ∀ (w : World) (a : Option Addr) (n c n' c' : Nat), (binOp .eql 56 (.slice a n c) (.slice none n' c')).run Try.prog w = .ok (.bool a.isNone) w := fun w a n c n' c' => Lib.run_eql_slice_nil w _ _ a n c n' c' Try.underlying56
  rcases h.2 with ⟨rfl, h1⟩ | ⟨g, cap, cur, rfl, hbase, hgb, r1, r2, r3, r4⟩
  · have hz : encPr zs = [] := by
      have := encPr_len zs
      rw [h1] at this
      exact List.length_eq_zero_iff.1 (by omega)
    rw [hz, h1]
    go_enter Try.func97, Try.ntmps97
    go_wp2_with fail
    go_ret
    exact ⟨_, rfl, World.ownsRow_nil _ _ _ _, .refl _ _⟩
  · have hga := GrowBut.alloc w (.cells #[] 55) []
    have hlit := World.ownsRow_lit (base := w.heap.size) (e := 55) (size := 2) w #[] 0 (Nat.le_refl _) (by unfold maxLen; omega) rfl
    have hnews : ∀ (j : Nat) u, (encPr zs)[j]? = some u → (w.alloc (.cells #[] 55)).cell? ((⟨g, 0, none⟩ : Addr).add j) = some u := fun j u hu => by
      have hj : j < zs.length * 2 := by
        obtain ⟨hj, _⟩ := List.getElem?_eq_some_iff.1 hu
        rw [← encPr_len]; exact hj
      rw [add_zeroP]
      exact hga.cell (by rw [h.cellAt j hj]; exact hu) (by simp)
    have hlen := encPr_len zs
    have hone := encPr_one zs
    clear r1 r2 r3 r4 h
    generalize encPr zs = cs at *
    generalize zs.length = n at *
    go_enter Try.func97, Try.ntmps97
    go_wp2_with (first
      | (at_builtin; (go_loud (refine wpList_append_own _ rfl _ _ 56 rfl w.heap.size 55 i0 (.agg #[.int .i64 0, .int .i64 0]) 2 16 Try.underlying56 hi hz0 hz1 hz2 rfl (by decide) _ _ _ rfl hlit ⟨g, 0, none⟩ n cap cs rfl hlen hnews hone (by unfold maxLen; omega) (by omega) (by simp) ?_); intro v' w4 hown4 hg4 hnil4; go_frame))
      | fail)
    go_ret
    exact ⟨v', rfl, by simpa using hown4, hga.from (GrowBut.of_rowZ (o := some w.heap.size) hg4) (fun x hx => .inr (by simp at hx; omega))⟩

end Go.Proofs.Ytcoedmiichppdaa


/-
  Package pact: twin, told.
-/
namespace Go.Proofs.Ytcoedmiichppdaa
open Go Go.RowKit Go.Maps Go.Am
set_option linter.unusedVariables false
set_option linter.unusedSimpArgs false

set_option maxRecDepth 100000 in
set_option maxHeartbeats 8000000 in
theorem twin_calls {b7 b8 : Nat} {v7 v8 : Value} {rs ss : List (Int × Int)} {k s : Int} {z : Bool} {w : World} (h7 : w.ownsRow b7 52 2 v7 rs.length (encPr rs)) (h8 : w.ownsRow b8 55 2 v8 ss.length (encPr ss)) (hl7 : rs.length ≤ 100000) (hl8 : ss.length ≤ 100000) :
    Calls Try.prog 77 #[.agg #[.int .i64 k, .int .i64 s, .bool z, v7, v8]] w fun e w' => ∃ v7' v8', e = .returned (.agg #[.int .i64 k, .int .i64 s, .bool z, v7', v8']) ∧ w'.ownsRow w.heap.size 52 2 v7' rs.length (encPr rs) ∧ w'.ownsRow w.heap.size 55 2 v8' ss.length (encPr ss) ∧ GrowBut w w' [] := by
  obtain ⟨s7, p7, rfl⟩ := row_form h7
  obtain ⟨s8, p8, rfl⟩ := row_form h8
  go_enter Try.func77, Try.ntmps77
  go_upto_region 1 with fail
  have dG := (((GrowBut.alloc w (.cells #[.int .i64 k, .int .i64 s, .bool z, .slice s7 rs.length p7, .slice s8 ss.length p8] 58) []).trans (GrowBut.alloc _ (.cells #[.int .i64 0, .int .i64 0, .bool false, .slice none 0 0, .slice none 0 0] 58) [])).trans (GrowBut.drew _ []))
  have HC : ∀ w', GrowBut (((w.alloc (.cells #[.int .i64 k, .int .i64 s, .bool z, .slice s7 rs.length p7, .slice s8 ss.length p8] 58)).alloc (.cells #[.int .i64 0, .int .i64 0, .bool false, .slice none 0 0, .slice none 0 0] 58)).drew) w' [] → w'.cell? ⟨w.heap.size, 0, none⟩ = some (.int .i64 k) ∧ w'.cell? ⟨w.heap.size, 1, none⟩ = some (.int .i64 s) ∧ w'.cell? ⟨w.heap.size, 2, none⟩ = some (.bool z) ∧ w'.cell? ⟨w.heap.size, 3, none⟩ = some (.slice s7 rs.length p7) ∧ w'.cell? ⟨w.heap.size, 4, none⟩ = some (.slice s8 ss.length p8) ∧
      w'.frozen? ⟨w.heap.size, 3, none⟩ = false ∧ w'.frozen? ⟨w.heap.size, 4, none⟩ = false ∧ w'.cell? ⟨w.heap.size + 1, 0, none⟩ = some (.int .i64 0) ∧ w'.cell? ⟨w.heap.size + 1, 1, none⟩ = some (.int .i64 0) ∧ w'.cell? ⟨w.heap.size + 1, 2, none⟩ = some (.bool false) ∧ w'.cell? ⟨w.heap.size + 1, 3, none⟩ = some (.slice none 0 0) ∧ w'.cell? ⟨w.heap.size + 1, 4, none⟩ = some (.slice none 0 0) ∧ (∀ i, i < 5 → w'.frozen? ⟨w.heap.size + 1, i, none⟩ = false) := fun w' hg => by
    have hsz : w.heap.size < (((w.alloc (.cells #[.int .i64 k, .int .i64 s, .bool z, .slice s7 rs.length p7, .slice s8 ss.length p8] 58)).alloc (.cells #[.int .i64 0, .int .i64 0, .bool false, .slice none 0 0, .slice none 0 0] 58)).drew).heap.size := by go_simp
    have hsz' : w.heap.size + 1 < (((w.alloc (.cells #[.int .i64 k, .int .i64 s, .bool z, .slice s7 rs.length p7, .slice s8 ss.length p8] 58)).alloc (.cells #[.int .i64 0, .int .i64 0, .bool false, .slice none 0 0, .slice none 0 0] 58)).drew).heap.size := by go_simp
    refine ⟨hg.cell (by go_simp) (by simp), hg.cell (by go_simp) (by simp), hg.cell (by go_simp) (by simp), hg.cell (by go_simp) (by simp), hg.cell (by go_simp) (by simp), hg.frozen (a := ⟨w.heap.size, 3, none⟩) hsz (by go_simp) (by simp), hg.frozen (a := ⟨w.heap.size, 4, none⟩) hsz (by go_simp) (by simp), hg.cell (by go_simp) (by simp), hg.cell (by go_simp) (by simp), hg.cell (by go_simp) (by simp), hg.cell (by go_simp) (by simp), hg.cell (by go_simp) (by simp), fun i hi => hg.frozen (a := ⟨w.heap.size + 1, i, none⟩) hsz' (by go_simp) (by simp)⟩
  have H7 := fun w' (hg : GrowBut (((w.alloc (.cells #[.int .i64 k, .int .i64 s, .bool z, .slice s7 rs.length p7, .slice s8 ss.length p8] 58)).alloc (.cells #[.int .i64 0, .int .i64 0, .bool false, .slice none 0 0, .slice none 0 0] 58)).drew) w' []) => (dG.trans hg).row h7 (by simp)
  have H8 := fun w' (hg : GrowBut (((w.alloc (.cells #[.int .i64 k, .int .i64 s, .bool z, .slice s7 rs.length p7, .slice s8 ss.length p8] 58)).alloc (.cells #[.int .i64 0, .int .i64 0, .bool false, .slice none 0 0, .slice none 0 0] 58)).drew) w' []) => (dG.trans hg).row h8 (by simp)
  obtain ⟨c0, c1, c2, c3, c4, f3, f4, _⟩ := HC _ (.refl _ _)
  clear h7 h8
  go_region_with (first
    | (go_at_call 96; (refine (cloneR (H7 _ (.refl _ _)) hl7).mono ?_; rintro e wR ⟨vR, rfl, hrR, hgR⟩; obtain ⟨sR, pR, rfl⟩ := row_form hrR; obtain ⟨c0R, c1R, c2R, c3R, c4R, f3R, f4R, _⟩ := HC _ hgR))
    | (go_at_call 97; (refine (cloneS (H8 _ hgR) hl8).mono ?_; rintro e wS ⟨vS, rfl, hrS, hgS⟩; obtain ⟨sS, pS, rfl⟩ := row_form hrS; obtain ⟨c0S, c1S, c2S, c3S, c4S, f3S, f4S, e0S, e1S, e2S, e3S, e4S, fS⟩ := HC _ (hgR.trans hgS)))
    | fail)
  all_goals go_wp2_with fail
  all_goals
    have hS7 := hgR.trans hgS
    have hX := ((((((GrowBut.setCell wS ⟨w.heap.size, 3, none⟩ (.slice sR rs.length pR)).mono (l' := [w.heap.size, w.heap.size + 1]) (by simp)).trans ((GrowBut.setCell _ ⟨w.heap.size, 4, none⟩ (.slice sS ss.length pS)).mono (l' := [w.heap.size, w.heap.size + 1]) (by simp))).trans ((GrowBut.setCell _ ⟨w.heap.size + 1, 0, none⟩ (.int .i64 k)).mono (l' := [w.heap.size, w.heap.size + 1]) (by simp))).trans ((GrowBut.setCell _ ⟨w.heap.size + 1, 1, none⟩ (.int .i64 s)).mono (l' := [w.heap.size, w.heap.size + 1]) (by simp))).trans ((GrowBut.setCell _ ⟨w.heap.size + 1, 2, none⟩ (.bool z)).mono (l' := [w.heap.size, w.heap.size + 1]) (by simp))).trans ((GrowBut.setCell _ ⟨w.heap.size + 1, 3, none⟩ (.slice sR rs.length pR)).mono (l' := [w.heap.size, w.heap.size + 1]) (by simp))
    have hX2 := hX.trans ((GrowBut.setCell _ ⟨w.heap.size + 1, 4, none⟩ (.slice sS ss.length pS)).mono (l' := [w.heap.size, w.heap.size + 1]) (by simp))
    clear hX
    have hsz0 : (((w.alloc (.cells #[.int .i64 k, .int .i64 s, .bool z, .slice s7 rs.length p7, .slice s8 ss.length p8] 58)).alloc (.cells #[.int .i64 0, .int .i64 0, .bool false, .slice none 0 0, .slice none 0 0] 58)).drew).heap.size = w.heap.size + 2 := by go_simp
    have hb0 := hgR.size
    rw [hsz0] at hrR hb0
    have hrR2 := hX2.row (hgS.row hrR (by simp)) (fun j hj hm => by have := (hrR.lt j hj).1; simp at hm; omega)
    have hrS2 := hX2.row hrS (fun j hj hm => by have := (hrS.lt j hj).1; simp at hm; omega)
    refine bodyPost_ret_by (v := .agg #[.int .i64 k, .int .i64 s, .bool z, .slice sR rs.length pR, .slice sS ss.length pS]) (by clear hX2 hrR2 hrS2 hS7 hgS hgR HC H7 H8 dG; simp only [results, Try.f77]; go_simp) rfl ?_
    exact ⟨_, _, rfl, row_low hrR2 (by omega), row_low hrS2 (by omega), (dG.trans hS7).from hX2 (fun x hx => .inr (by simp at hx; omega))⟩

end Go.Proofs.Ytcoedmiichppdaa


/-
  Package pact: told.
-/
namespace Go.Proofs.Ytcoedmiichppdaa
open Go Go.RowKit Go.Maps Go.Am
set_option linter.unusedVariables false
set_option linter.unusedSimpArgs false

set_option maxRecDepth 100000 in
set_option maxHeartbeats 8000000 in
theorem told_calls {w : World} {ow : Nat → Int} {m : Int} {X N : Nat} {r : PactR} (h : PactAt w ow m X N r) (hl7 : r.d.recvs.length ≤ 100000) (hl8 : r.d.spans.length ≤ 100000) (hl9 : r.frames.length ≤ 100000) :
    Calls Try.prog 79 #[.pointer (some ⟨X, 0, none⟩)] w fun e w' => ∃ v7 v8 v9, e = .returned (.tuple #[.agg #[.int .i64 r.d.kind, .int .i64 r.d.sender, .bool r.d.zero, v7, v8], v9]) ∧ w'.ownsRow w.heap.size 52 2 v7 r.d.recvs.length (encPr r.d.recvs) ∧ w'.ownsRow w.heap.size 55 2 v8 r.d.spans.length (encPr r.d.spans) ∧ w'.ownsRow w.heap.size 3 1 v9 r.frames.length (r.frames.map (Value.int .i64)) ∧ GrowBut w w' [] := by
  have b4 := h.c4
  have b5 := h.c5
  have b6 := h.c6
  obtain ⟨v7, b7, h7, _⟩ := h.c7
  obtain ⟨v8, b8, h8, _⟩ := h.c8
  obtain ⟨v9, b9, h9, _⟩ := h.c9
  obtain ⟨s7, p7, rfl⟩ := row_form h7
  obtain ⟨s8, p8, rfl⟩ := row_form h8
  obtain ⟨s9, p9, rfl⟩ := row_form h9
  have hXl := cell_lt h.c0
  simp only at hXl
  clear h
  obtain ⟨sender, kind, bytes, all, offered, d, frames, takers⟩ := r
  obtain ⟨dk, ds, dz, rs, ss⟩ := d
  simp only at *
  go_enter Try.func79, Try.ntmps79
  go_upto_region 1 with fail
  have dG := (GrowBut.alloc w (.cells #[.int .i64 0, .int .i64 0, .bool false, .slice none 0 0, .slice none 0 0] 58) []).trans (GrowBut.drew _ [])
  have HC : ∀ w', GrowBut ((w.alloc (.cells #[.int .i64 0, .int .i64 0, .bool false, .slice none 0 0, .slice none 0 0] 58)).drew) w' [] → w'.cell? ⟨X, 4, none⟩ = some (.int .i64 dk) ∧ w'.cell? ⟨X, 5, none⟩ = some (.int .i64 ds) ∧ w'.cell? ⟨X, 6, none⟩ = some (.bool dz) ∧ w'.cell? ⟨X, 7, none⟩ = some (.slice s7 rs.length p7) ∧ w'.cell? ⟨X, 8, none⟩ = some (.slice s8 ss.length p8) ∧ w'.cell? ⟨X, 9, none⟩ = some (.slice s9 frames.length p9) ∧
      w'.cell? ⟨w.heap.size, 0, none⟩ = some (.int .i64 0) ∧ w'.cell? ⟨w.heap.size, 1, none⟩ = some (.int .i64 0) ∧ w'.cell? ⟨w.heap.size, 2, none⟩ = some (.bool false) ∧ w'.cell? ⟨w.heap.size, 3, none⟩ = some (.slice none 0 0) ∧ w'.cell? ⟨w.heap.size, 4, none⟩ = some (.slice none 0 0) ∧ (∀ i, i < 5 → w'.frozen? ⟨w.heap.size, i, none⟩ = false) := fun w' hg => by
    have hsz' : w.heap.size < ((w.alloc (.cells #[.int .i64 0, .int .i64 0, .bool false, .slice none 0 0, .slice none 0 0] 58)).drew).heap.size := by go_simp
    have hG := dG.trans hg
    exact ⟨hG.cell b4 (by simp), hG.cell b5 (by simp), hG.cell b6 (by simp), hG.cell b7 (by simp), hG.cell b8 (by simp), hG.cell b9 (by simp), hg.cell (by go_simp) (by simp), hg.cell (by go_simp) (by simp), hg.cell (by go_simp) (by simp), hg.cell (by go_simp) (by simp), hg.cell (by go_simp) (by simp), fun i hi => hg.frozen (a := ⟨w.heap.size, i, none⟩) hsz' (by go_simp) (by simp)⟩
  have H7 := fun w' (hg : GrowBut ((w.alloc (.cells #[.int .i64 0, .int .i64 0, .bool false, .slice none 0 0, .slice none 0 0] 58)).drew) w' []) => (dG.trans hg).row h7 (by simp)
  have H8 := fun w' (hg : GrowBut ((w.alloc (.cells #[.int .i64 0, .int .i64 0, .bool false, .slice none 0 0, .slice none 0 0] 58)).drew) w' []) => (dG.trans hg).row h8 (by simp)
  have H9 := fun w' (hg : GrowBut ((w.alloc (.cells #[.int .i64 0, .int .i64 0, .bool false, .slice none 0 0, .slice none 0 0] 58)).drew) w' []) => (dG.trans hg).row h9 (by simp)
  obtain ⟨c4, c5, c6, c7, c8, c9, _⟩ := HC _ (.refl _ _)
  clear h7 h8 h9 b4 b5 b6 b7 b8 b9
  go_region_with (first
    | (go_at_call 77; (refine (twin_calls (H7 _ (.refl _ _)) (H8 _ (.refl _ _)) hl7 hl8).mono ?_; rintro e wR ⟨vR, vS, rfl, hrR, hrS, hgR⟩; obtain ⟨sR, pR, rfl⟩ := row_form hrR; obtain ⟨sS, pS, rfl⟩ := row_form hrS; obtain ⟨c4R, c5R, c6R, c7R, c8R, c9R, _⟩ := HC _ hgR))
    | (go_at_call 78; (refine (cloneRow (H9 _ hgR) hl9).mono ?_; rintro e wS ⟨vF, rfl, hrF, hgS⟩; obtain ⟨sF, pF, rfl⟩ := row_form hrF; obtain ⟨_, _, _, _, _, _, e0S, e1S, e2S, e3S, e4S, fS⟩ := HC _ (hgR.trans hgS)))
    | fail)
  all_goals go_wp2_with fail
  all_goals
    have hX2 := (((((GrowBut.setCell wS ⟨w.heap.size, 0, none⟩ (.int .i64 dk)).trans (GrowBut.setCell _ ⟨w.heap.size, 1, none⟩ (.int .i64 ds))).trans (GrowBut.setCell _ ⟨w.heap.size, 2, none⟩ (.bool dz))).trans (GrowBut.setCell _ ⟨w.heap.size, 3, none⟩ (.slice sR rs.length pR))).trans (GrowBut.setCell _ ⟨w.heap.size, 4, none⟩ (.slice sS ss.length pS)))
    have hsz0 : ((w.alloc (.cells #[.int .i64 0, .int .i64 0, .bool false, .slice none 0 0, .slice none 0 0] 58)).drew).heap.size = w.heap.size + 1 := by go_simp
    have hb0 := hgR.size
    rw [hsz0] at hrR hrS hb0
    have hrR2 := hX2.row (hgS.row hrR (by simp)) (fun j hj hm => by have := (hrR.lt j hj).1; simp at hm; omega)
    have hrS2 := hX2.row (hgS.row hrS (by simp)) (fun j hj hm => by have := (hrS.lt j hj).1; simp at hm; omega)
    have hrF2 := hX2.row hrF (fun j hj hm => by have := (hrF.lt j hj).1; simp at hm; omega)
    refine bodyPost_ret_by (v := .tuple #[.agg #[.int .i64 dk, .int .i64 ds, .bool dz, .slice sR rs.length pR, .slice sS ss.length pS], .slice sF frames.length pF]) (by clear hX2 hrR2 hrS2 hrF2 hgS hgR HC H7 H8 H9 dG; simp only [results, Try.f79]; go_simp) rfl ?_
    exact ⟨_, _, _, rfl, row_low hrR2 (by omega), row_low hrS2 (by omega), row_low hrF2 (by omega), (dG.trans (hgR.trans hgS)).from hX2 (fun x hx => .inr (by simp at hx; omega))⟩

end Go.Proofs.Ytcoedmiichppdaa


/-
  Package pact: May (Reclaim), Reclaim.
-/
namespace Go.Proofs.Ytcoedmiichppdaa
open Go Go.RowKit Go.Maps Go.Am
set_option linter.unusedVariables false
set_option linter.unusedSimpArgs false

set_option maxRecDepth 100000 in
set_option maxHeartbeats 2000000 in
theorem may_none {w : World} {ow : Nat → Int} {P MB b LB EB N : Nat} {g : Nat → Int} {L : List Int} {deals : Int → Option PactR} {events : Int → List Int} (h : PactsAt w ow P MB b LB EB N g L deals events) (m part ev : Int) (hm : (Lit.int .u64 m).wf = true) (hd : ∀ r, deals m = some r → r.offered ≠ true) :
    Calls Try.prog 55 #[.pointer (some ⟨P, 0, none⟩), .int .u64 m, .int .i64 part, .int .i64 ev] w fun e w' => e = .returned (.int .i64 (-2)) ∧ w' = w := by
  have hO := of_no h m hm true hd
  clear hd h
  go_enter Try.func55, Try.ntmps55
  go_wp2_with fail
  refine wp_scope_jumps 0 (fun a' w' => w' = w ∧ a'.defers = [] ∧ 8 < a'.tmps.size) (fun _ _ => 0) rfl ?_ ?_
  · go_wp2_with (first
      | (go_at_call 73; (refine hO.mono ?_; clear hO; rintro e w1 ⟨rfl, hw1⟩; rw [hw1]; clear hw1 w1))
      | fail)
    repeat (go_step3; (try go_wp2_with fail))
    exact ⟨rfl, rfl, rfl, by simp⟩
  · rintro ⟨tmps, defers⟩ w' ⟨rfl, hd, hs⟩
    simp only at hd hs
    subst hd
    repeat (go_step3; (try go_wp2_with fail))
    go_wp2_with fail
    simp only [Exit.jump]
    refine bodyPost_ret_by (v := .int .i64 (-2)) (by simp only [results, Try.f55]; simp [hs]; try go_simp) rfl ⟨rfl, rfl⟩

set_option maxRecDepth 100000 in
set_option maxHeartbeats 2000000 in
theorem may_reclaim {w : World} {ow : Nat → Int} {P MB b LB EB N : Nat} {g : Nat → Int} {L : List Int} {deals : Int → Option PactR} {events : Int → List Int} (h : PactsAt w ow P MB b LB EB N g L deals events) (m part : Int) (hm : (Lit.int .u64 m).wf = true) (r : PactR) (hd : deals m = some r) (ho : r.offered = true) (hs : r.sender = part) (ht : r.takers = []) :
    Calls Try.prog 55 #[.pointer (some ⟨P, 0, none⟩), .int .u64 m, .int .i64 part, .int .i64 5] w fun e w' => e = .returned (.int .i64 0) ∧ w' = w := by
  obtain ⟨X, hX, hlk, hO⟩ := of_some h m hm true r hd ho
  have c0 := hX.c0
  rw [hs] at c0
  obtain ⟨T, cT, _, hT⟩ := hX.c10
  have hlen := hT.len_run hX.nd
  rw [ht] at hlen
  clear hd h hX hT
  go_enter Try.func55, Try.ntmps55
  go_wp2_with fail
  go_step3
  go_wp2_with (first
    | (go_at_call 73; (refine hO.mono ?_; clear hO; rintro e w1 ⟨rfl, rfl⟩))
    | fail)
  repeat (go_step3; (try go_wp2_with fail))
  rw [Exit.noGoto_ret]
  go_ret
  exact ⟨rfl, rfl⟩

set_option maxRecDepth 100000 in
set_option maxHeartbeats 2000000 in
theorem reclaim_none {w : World} {ow : Nat → Int} {P MB b LB EB N : Nat} {g : Nat → Int} {L : List Int} {deals : Int → Option PactR} {events : Int → List Int} (h : PactsAt w ow P MB b LB EB N g L deals events) (m part : Int) (hm : (Lit.int .u64 m).wf = true) (hd : ∀ r, deals m = some r → r.offered ≠ true) :
    Calls Try.prog 39 #[.pointer (some ⟨P, 0, none⟩), .int .u64 m, .int .i64 part] w fun e w' => e = .returned (.tuple #[.agg #[.int .i64 0, .int .i64 0, .bool false, .slice none 0 0, .slice none 0 0], .slice none 0 0, .int .i64 (-2)]) ∧ GrowBut w w' [] := by
  have hg := GrowBut.alloc w (.cells #[.int .i64 0, .int .i64 0, .bool false, .slice none 0 0, .slice none 0 0] 58) []
  have hM := may_none (h.step (ow' := ow) hg (fun x hx => by cases hx) (fun _ _ => rfl)) m part 5 hm hd
  clear hd h
  go_enter Try.func39, Try.ntmps39
  go_wp2_with (first
    | (go_at_call 55; (refine hM.mono ?_; clear hM; rintro e w1 ⟨rfl, hw1⟩; rw [hw1]; clear hw1 w1))
    | fail)
  refine bodyPost_ret_by (v := .tuple #[.agg #[.int .i64 0, .int .i64 0, .bool false, .slice none 0 0, .slice none 0 0], .slice none 0 0, .int .i64 (-2)]) (by simp only [results, Try.f39]; go_simp) rfl ?_
  exact ⟨rfl, hg⟩

end Go.Proofs.Ytcoedmiichppdaa


/-
  Package pact: Reclaim.
-/
namespace Go.Proofs.Ytcoedmiichppdaa
open Go Go.RowKit Go.Maps Go.Am
set_option linter.unusedVariables false
set_option linter.unusedSimpArgs false

set_option maxRecDepth 100000 in
set_option maxHeartbeats 4000000 in
theorem reclaim_some {w : World} {ow : Nat → Int} {P MB b LB EB N : Nat} {g : Nat → Int} {L : List Int} {deals : Int → Option PactR} {events : Int → List Int} (h : PactsAt w ow P MB b LB EB N g L deals events) (m part : Int) (hm : (Lit.int .u64 m).wf = true) (r : PactR) (hd : deals m = some r) (ho : r.offered = true) (hs : r.sender = part) (ht : r.takers = []) (hN : N ≤ 100000) (hl : (events m).length ≤ 10000) (hl7 : r.d.recvs.length ≤ 100000) (hl8 : r.d.spans.length ≤ 100000) (hl9 : r.frames.length ≤ 100000) :
    Calls Try.prog 39 #[.pointer (some ⟨P, 0, none⟩), .int .u64 m, .int .i64 part] w fun e w' => ∃ v7 v8 v9, e = .returned (.tuple #[.agg #[.int .i64 r.d.kind, .int .i64 r.d.sender, .bool r.d.zero, v7, v8], v9, .int .i64 0]) ∧
      ∃ ow', (∀ x, x < w.heap.size → ow' x = ow x) ∧ PactsAt w' ow' P MB b LB EB (N + 1) g (L.erase m) (noDeal deals m) (noteE events m 5) ∧ ∃ l, GrowBut w w' l ∧ ∀ x ∈ l, x < w.heap.size → ow x = -1 ∨ ow x = -m - 10 := by
  have hm0 := h.pos m (.inl (by rw [hd]; exact fun e => by cases e))
  have hg1 := GrowBut.alloc w (.cells #[.int .i64 0, .int .i64 0, .bool false, .slice none 0 0, .slice none 0 0] 58) []
  have h1 := h.step (ow' := owN ow w (-2)) hg1 (fun x hx => by cases hx) owN_old
  have hM := may_reclaim h1 m part hm r hd ho hs ht
  obtain ⟨X, hX, hlk, _⟩ := of_some h1 m hm true r hd ho
  have hT := told_calls hX hl7 hl8 hl9
  have hp1 := h1.p1
  have hBo : owN ow w (-2) w.heap.size = -2 := owN_new (Nat.le_refl _)
  have hBl : w.heap.size < (w.alloc (.cells #[.int .i64 0, .int .i64 0, .bool false, .slice none 0 0, .slice none 0 0] 58)).heap.size := by go_simp
  have z0 : (w.alloc (.cells #[.int .i64 0, .int .i64 0, .bool false, .slice none 0 0, .slice none 0 0] 58)).cell? ⟨w.heap.size, 0, none⟩ = some (.int .i64 0) := by go_simp
  have z1 : (w.alloc (.cells #[.int .i64 0, .int .i64 0, .bool false, .slice none 0 0, .slice none 0 0] 58)).cell? ⟨w.heap.size, 1, none⟩ = some (.int .i64 0) := by go_simp
  have z2 : (w.alloc (.cells #[.int .i64 0, .int .i64 0, .bool false, .slice none 0 0, .slice none 0 0] 58)).cell? ⟨w.heap.size, 2, none⟩ = some (.bool false) := by go_simp
  have z3 : (w.alloc (.cells #[.int .i64 0, .int .i64 0, .bool false, .slice none 0 0, .slice none 0 0] 58)).cell? ⟨w.heap.size, 3, none⟩ = some (.slice none 0 0) := by go_simp
  have z4 : (w.alloc (.cells #[.int .i64 0, .int .i64 0, .bool false, .slice none 0 0, .slice none 0 0] 58)).cell? ⟨w.heap.size, 4, none⟩ = some (.slice none 0 0) := by go_simp
  have zf : ∀ i, i < 5 → (w.alloc (.cells #[.int .i64 0, .int .i64 0, .bool false, .slice none 0 0, .slice none 0 0] 58)).frozen? ⟨w.heap.size, i, none⟩ = false := fun i hi => by go_simp
  clear hX hs ht
  go_enter Try.func39, Try.ntmps39
  go_wp2_with (first
    | (go_at_call 55; (refine hM.mono ?_; clear hM; rintro e w1 ⟨rfl, hw1⟩; rw [hw1]; clear hw1 w1))
    | (go_at_call 79; (refine hT.mono ?_; clear hT; rintro e w2 ⟨v7, v8, v9, rfl, hr7, hr8, hr9, hg2⟩; obtain ⟨s7, p7, rfl⟩ := row_form hr7; obtain ⟨s8, p8, rfl⟩ := row_form hr8; obtain ⟨s9, p9, rfl⟩ := row_form hr9; have a0 := hg2.cell z0 (by simp); have a1 := hg2.cell z1 (by simp); have a2 := hg2.cell z2 (by simp); have a3 := hg2.cell z3 (by simp); have a4 := hg2.cell z4 (by simp); have af := fun i (hi : i < 5) => hg2.frozen (a := ⟨w.heap.size, i, none⟩) hBl (zf i hi) (by simp); have hs2 := hg2.size; have hS := (((((GrowBut.setCell w2 ⟨w.heap.size, 0, none⟩ (.int .i64 r.d.kind)).trans (GrowBut.setCell _ ⟨w.heap.size, 1, none⟩ (.int .i64 r.d.sender))).trans (GrowBut.setCell _ ⟨w.heap.size, 2, none⟩ (.bool r.d.zero))).trans (GrowBut.setCell _ ⟨w.heap.size, 3, none⟩ (.slice s7 r.d.recvs.length p7))).trans (GrowBut.setCell _ ⟨w.heap.size, 4, none⟩ (.slice s8 r.d.spans.length p8))); have h3 := h1.step (ow' := owN ow w (-2)) ((hg2.mono (by simp)).trans hS) (fun x hx _ => by simp at hx; rw [hx]; exact hBo) (fun _ _ => rfl); have hE := ends_calls h3 m 5 hm hm0 hN hl))
    | (go_at_call 80; (refine hE.mono ?_; clear hE; rintro e w4 ⟨rfl, ow4, ho4, hP4, l4, hg4, hl4⟩; have hB4 : w.heap.size ∉ l4 := (fun hx => by have h5 := hl4 _ hx (by have := hS.size; omega); rw [hBo] at h5; omega); have e0 := hg4.cell (a := ⟨w.heap.size, 0, none⟩) (v := .int .i64 r.d.kind) (by go_simp) hB4; have e1 := hg4.cell (a := ⟨w.heap.size, 1, none⟩) (v := .int .i64 r.d.sender) (by go_simp) hB4; have e2 := hg4.cell (a := ⟨w.heap.size, 2, none⟩) (v := .bool r.d.zero) (by go_simp) hB4; have e3 := hg4.cell (a := ⟨w.heap.size, 3, none⟩) (v := .slice s7 r.d.recvs.length p7) (by go_simp) hB4; have e4 := hg4.cell (a := ⟨w.heap.size, 4, none⟩) (v := .slice s8 r.d.spans.length p8) (by go_simp) hB4; have ef := fun i (hi : i < 5) => hg4.frozen (a := ⟨w.heap.size, i, none⟩) (by have := hS.size; simp only at this ⊢; omega) (by go_simp) hB4))
    | fail)
  have hS2 := (((((GrowBut.setCell w4 ⟨w.heap.size, 0, none⟩ (.int .i64 r.d.kind)).trans (GrowBut.setCell _ ⟨w.heap.size, 1, none⟩ (.int .i64 r.d.sender))).trans (GrowBut.setCell _ ⟨w.heap.size, 2, none⟩ (.bool r.d.zero))).trans (GrowBut.setCell _ ⟨w.heap.size, 3, none⟩ (.slice s7 r.d.recvs.length p7))).trans (GrowBut.setCell _ ⟨w.heap.size, 4, none⟩ (.slice s8 r.d.spans.length p8)))
  have hsz3 := hS.size
  have hsz4 := hg4.size
  have hP5 := hP4.step (ow' := ow4) hS2 (fun x hx _ => by simp at hx; rw [hx, ho4 _ (by omega)]; exact hBo) (fun _ _ => rfl)
  have hG : GrowBut w _ (w.heap.size :: l4) := ((((hg1.trans hg2).mono (fun x hx => nomatch hx)).trans (hS.mono (by simp))).trans (hg4.mono (fun x hx => List.mem_cons_of_mem _ hx))).trans (hS2.mono (by simp))
  have hs1 := hg1.size
  refine bodyPost_ret_by (v := .tuple #[.agg #[.int .i64 r.d.kind, .int .i64 r.d.sender, .bool r.d.zero, .slice s7 r.d.recvs.length p7, .slice s8 r.d.spans.length p8], .slice s9 r.frames.length p9, .int .i64 0]) (by clear hG hP5 hS2 hS h3 h1 h hP4 hg4 hg2 hg1 hlk hr7 hr8 hr9; simp only [results, Try.f39]; go_simp) rfl ?_
  refine ⟨_, _, _, rfl, ow4, fun x hx => ?_, hP5, _, hG, fun x hx hxs => ?_⟩
  · rw [ho4 x (by omega), owN_old x hx]
  · rcases List.mem_cons.1 hx with rfl | hx
    · omega
    · have := hl4 x hx (by omega)
      rw [owN_old x hxs] at this
      exact this

end Go.Proofs.Ytcoedmiichppdaa
