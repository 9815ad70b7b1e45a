/-
  Package pact: Offer.
-/
import Derived.Test.YtcoedmiichppdaaJ9

namespace Go.Proofs.Ytcoedmiichppdaa
open Go Go.RowKit Go.Maps Go.Am
set_option linter.unusedVariables false
set_option linter.unusedSimpArgs false

theorem PiecesAt.other {w w' : World} {ow ow' : Nat → Int} {m : Int} {Y : Nat} {bytes : List Int} {all : Int} {l : List Nat} (h : PiecesAt w ow m Y bytes all) (hg : GrowBut w w' l) (hl : ∀ x ∈ l, ¬ Typed w x 154 ∧ ¬ Typed w x 5) (ho : ∀ x, x < w.heap.size → ow' x = ow x) : PiecesAt w' ow' m Y bytes all := by
  obtain ⟨h1, ht, ⟨v, h2, h3⟩, h4, h5⟩ := h
  have hY := cell_lt h4
  have hn : Y ∉ l := fun hm => (hl Y hm).1 ht
  exact ⟨by rw [ho Y hY]; exact h1, ht.kept hg hn, ⟨v, hg.cell h2 hn, h3.other hg (fun x hx => (hl x hx).2) ho⟩, hg.cell h4 hn, hg.frozen hY h5 hn⟩

/-- What is offered, laid. -/
theorem PactAt.offer {w4 : World} {ow : Nat → Int} {m : Int} {X N : Nat} {r : PactR} {k s : Int} {z : Bool} {rs ss : List (Int × Int)} {fr : List Int} {s7 s8 s9 : Option Addr} {p7 p8 p9 : Nat} (h : PactAt w4 ow m X N r)
    (h7 : RowOf w4 ow m 52 2 (.slice s7 rs.length p7) rs.length (encPr rs)) (h8 : RowOf w4 ow m 55 2 (.slice s8 ss.length p8) ss.length (encPr ss)) (h9 : RowOf w4 ow m 3 1 (.slice s9 fr.length p9) fr.length (fr.map (Value.int .i64))) :
    PactAt (((((((w4.setCell ⟨X, 3, none⟩ (.bool true)).setCell ⟨X, 4, none⟩ (.int .i64 k)).setCell ⟨X, 5, none⟩ (.int .i64 s)).setCell ⟨X, 6, none⟩ (.bool z)).setCell ⟨X, 7, none⟩ (.slice s7 rs.length p7)).setCell ⟨X, 8, none⟩ (.slice s8 ss.length p8)).setCell ⟨X, 9, none⟩ (.slice s9 fr.length p9)) ow m X N { r with offered := true, d := ⟨k, s, z, rs, ss⟩, frames := fr } := by
  have hS := (((((((GrowBut.setCell w4 ⟨X, 3, none⟩ (.bool true)).trans (GrowBut.setCell _ ⟨X, 4, none⟩ (.int .i64 k))).trans (GrowBut.setCell _ ⟨X, 5, none⟩ (.int .i64 s))).trans (GrowBut.setCell _ ⟨X, 6, none⟩ (.bool z))).trans (GrowBut.setCell _ ⟨X, 7, none⟩ (.slice s7 rs.length p7))).trans (GrowBut.setCell _ ⟨X, 8, none⟩ (.slice s8 ss.length p8))).trans (GrowBut.setCell _ ⟨X, 9, none⟩ (.slice s9 fr.length p9)))
  simp only [List.append_assoc] at hS
  have hX := cell_lt h.c0
  have ty := h.ty
  have hno : ∀ e, e ≠ 122 → ∀ x ∈ [X], ¬ Typed w4 x e := fun e he x hx ht => by
    simp at hx; subst hx
    exact Typed.ne ht ty he rfl
  obtain ⟨Y, hY, hP⟩ := h.c2
  obtain ⟨T, hT, hTo, hTt⟩ := h.c10
  have hTX : T ∉ [X] := by simpa using Ne.symm (ty.ne_tab hTt)
  have hP5 := hP.other hS (fun x hx => ⟨hno _ (by decide) x hx, hno _ (by decide) x hx⟩) (ow' := ow) (fun _ _ => rfl)
  have h75 := h7.other hS (hno _ (by decide)) (ow' := ow) (fun _ _ => rfl)
  have h85 := h8.other hS (hno _ (by decide)) (ow' := ow) (fun _ _ => rfl)
  have h95 := h9.other hS (hno _ (by decide)) (ow' := ow) (fun _ _ => rfl)
  have hT5 := hTt.kept hS hTX
  have ty5 : Typed (((((((w4.setCell ⟨X, 3, none⟩ (.bool true)).setCell ⟨X, 4, none⟩ (.int .i64 k)).setCell ⟨X, 5, none⟩ (.int .i64 s)).setCell ⟨X, 6, none⟩ (.bool z)).setCell ⟨X, 7, none⟩ (.slice s7 rs.length p7)).setCell ⟨X, 8, none⟩ (.slice s8 ss.length p8)).setCell ⟨X, 9, none⟩ (.slice s9 fr.length p9)) X 122 := ((((((ty.setCell _ _ _).setCell _ _ _).setCell _ _ _).setCell _ _ _).setCell _ _ _).setCell _ _ _).setCell _ _ _
  have c0 := h.c0
  have c1 := h.c1
  have c3 := h.c3
  have c4 := h.c4
  have c5 := h.c5
  have c6 := h.c6
  obtain ⟨_, c7, _⟩ := h.c7
  obtain ⟨_, c8, _⟩ := h.c8
  obtain ⟨_, c9, _⟩ := h.c9
  have fz := h.fz
  refine ⟨h.own, ty5, ?_, ?_, ⟨Y, ?_, hP5⟩, ?_, ?_, ?_, ?_, ⟨_, ?_, h75⟩, ⟨_, ?_, h85⟩, ⟨_, ?_, h95⟩, ⟨T, ?_, hTo, hT5⟩, h.nd, fun i hi => ?_⟩
  all_goals clear hS hP5 h75 h85 h95 hT5 ty5 hP hTt h h7 h8 h9 hno ty
  case refine_12 => have := fz i hi; go_simp
  all_goals clear fz
  all_goals go_simp

set_option maxRecDepth 100000 in
set_option maxHeartbeats 4000000 in
theorem offer_ok {w : World} {ow : Nat → Int} {P MB b LB EB N : Nat} {g : Nat → Int} {L : List Int} {deals : Int → Option PactR} {events : Int → List Int} (h : PactsAt w ow P MB b LB EB N g L deals events) (m : Int) (hm : (Lit.int .u64 m).wf = true) (r : PactR) (hd : deals m = some r) (ho : r.offered = false) (all : Nat) (hall : r.all = all) (ha : all ≤ 400) (hb : r.bytes.length = all) (hN : N ≤ 100000) (hl : (events m).length ≤ 10000)
    {k s : Int} {z : Bool} {rs ss : List (Int × Int)} {fr : List Int} {v7 v8 v9 : Value} (h7 : w.ownsRow 0 52 2 v7 rs.length (encPr rs)) (h8 : w.ownsRow 0 55 2 v8 ss.length (encPr ss)) (h9 : w.ownsRow 0 3 1 v9 fr.length (fr.map (Value.int .i64))) (hl7 : rs.length ≤ 100000) (hl8 : ss.length ≤ 100000) (hl9 : fr.length ≤ 100000) :
    Calls Try.prog 36 #[.pointer (some ⟨P, 0, none⟩), .int .u64 m, .agg #[.int .i64 k, .int .i64 s, .bool z, v7, v8], v9] w fun e w' => e = .returned (.int .i64 0) ∧
      ∃ ow', (∀ x, x < w.heap.size → ow' x = ow x) ∧ PactsAt w' ow' P MB b LB EB (N + 1) g L (setD deals m { r with offered := true, d := ⟨k, s, z, rs, ss⟩, frames := fr }) (noteE events m 2) ∧ ∃ l, GrowBut w w' l ∧ ∀ x ∈ l, x < w.heap.size → ow x = -1 ∨ ow x = m ∨ ow x = -m - 10 := by
  have hm0 := h.pos m (.inl (by rw [hd]; exact fun e => by cases e))
  obtain ⟨t7, q7, rfl⟩ := row_form h7
  obtain ⟨t8, q8, rfl⟩ := row_form h8
  obtain ⟨t9, q9, rfl⟩ := row_form h9
  have hg1 := GrowBut.alloc w (.cells #[.int .i64 k, .int .i64 s, .bool z, .slice t7 rs.length q7, .slice t8 ss.length q8] 58) []
  have h1 := h.step (ow' := owN ow w m) hg1 (fun x hx => by cases hx) owN_old
  obtain ⟨X, hX, hlk, hO⟩ := of_some h1 m hm false r hd ho
  obtain ⟨X0, hX0, hlk0, _⟩ := of_some h m hm false r hd ho
  have hXX : X0 = X := by
    obtain ⟨fl, htl, _⟩ := h.tl
    have e1 := htl.look (t := 113) (e := 120) lawU Try.underlying33 Try.underlying113 (zeroPp w) hm
    have e2 := (htl.kept hg1 (by simp)).look (t := 113) (e := 120) lawU Try.underlying33 Try.underlying113 (zeroPp _) hm
    rw [hlk0] at e1
    rw [hlk] at e2
    simp at e1 e2
    rw [← e1] at e2
    simpa using e2.symm
  subst hXX
  obtain ⟨Y, hY, hPc⟩ := hX.c2
  rw [hall] at hPc
  have hLf := left_calls Y _ m r.bytes all _ hPc ha (by omega)
  rw [hb, Nat.sub_self] at hLf
  have hXl := cell_lt hX0.c0
  simp only at hXl
  have y3 := hX.c3
  have y4 := hX.c4
  have y5 := hX.c5
  have y6 := hX.c6
  obtain ⟨u7, y7, _⟩ := hX.c7
  obtain ⟨u8, y8, _⟩ := hX.c8
  obtain ⟨u9, y9, _⟩ := hX.c9
  have yf := hX.fz
  have hB0 : (w.alloc (.cells #[.int .i64 k, .int .i64 s, .bool z, .slice t7 rs.length q7, .slice t8 ss.length q8] 58)).cell? ⟨w.heap.size, 0, none⟩ = some (.int .i64 k) := by go_simp
  have hB1 : (w.alloc (.cells #[.int .i64 k, .int .i64 s, .bool z, .slice t7 rs.length q7, .slice t8 ss.length q8] 58)).cell? ⟨w.heap.size, 1, none⟩ = some (.int .i64 s) := by go_simp
  have hB2 : (w.alloc (.cells #[.int .i64 k, .int .i64 s, .bool z, .slice t7 rs.length q7, .slice t8 ss.length q8] 58)).cell? ⟨w.heap.size, 2, none⟩ = some (.bool z) := by go_simp
  have hB3 : (w.alloc (.cells #[.int .i64 k, .int .i64 s, .bool z, .slice t7 rs.length q7, .slice t8 ss.length q8] 58)).cell? ⟨w.heap.size, 3, none⟩ = some (.slice t7 rs.length q7) := by go_simp
  have hB4 : (w.alloc (.cells #[.int .i64 k, .int .i64 s, .bool z, .slice t7 rs.length q7, .slice t8 ss.length q8] 58)).cell? ⟨w.heap.size, 4, none⟩ = some (.slice t8 ss.length q8) := by go_simp
  go_enter Try.func36, Try.ntmps36
  go_wp2_with (first
    | (go_at_call 73; (refine hO.mono ?_; clear hO; rintro e w1 ⟨rfl, hw1⟩; rw [hw1]; clear hw1 w1))
    | (go_at_call 76; (refine hLf.mono ?_; clear hLf; rintro e w2 ⟨rfl, hg2⟩; have k0 := hg2.cell hB0 (by simp); have k1 := hg2.cell hB1 (by simp); have k2 := hg2.cell hB2 (by simp); have k3 := hg2.cell hB3 (by simp); have k4 := hg2.cell hB4 (by simp)))
    | (go_at_call 77; (refine (twin_calls ((hg1.trans hg2).row h7 (by simp)) ((hg1.trans hg2).row h8 (by simp)) hl7 hl8).mono ?_; rintro e w3 ⟨v7, v8, rfl, hr7, hr8, hg3⟩; obtain ⟨s7, p7, rfl⟩ := row_form hr7; obtain ⟨s8, p8, rfl⟩ := row_form hr8))
    | (go_at_call 78; (refine (cloneRow (((hg1.trans hg2).trans hg3).row h9 (by simp)) hl9).mono ?_; rintro e w4 ⟨v9, rfl, hr9, hg4⟩; obtain ⟨s9, p9, rfl⟩ := row_form hr9; have hG := (hg2.trans hg3).trans hg4; have j3 := hG.cell y3 (by simp); have j4 := hG.cell y4 (by simp); have j5 := hG.cell y5 (by simp); have j6 := hG.cell y6 (by simp); have j7 := hG.cell y7 (by simp); have j8 := hG.cell y8 (by simp); have j9 := hG.cell y9 (by simp); have jf := fun i (hi : i < 11) => hG.frozen (a := ⟨X0, i, none⟩) (by have := hg1.size; simp only; omega) (yf i hi) (by simp) ; have hX4 := hX.step (ow' := owN ow w m) hG (fun x hx => by cases hx) (fun _ _ => rfl) ; have hsz1 := hg1.size; have hsz2 := hg2.size; have hsz3 := hg3.size ; have hof := hX4.offer (k := k) (s := s) (z := z) (rs := rs) (ss := ss) (fr := fr) ⟨row_low (hg4.row hr7 (by simp)) (Nat.zero_le _), fun x hx => owN_new (by have := (hr7.lt x hx).1; omega)⟩ ⟨row_low (hg4.row hr8 (by simp)) (Nat.zero_le _), fun x hx => owN_new (by have := (hr8.lt x hx).1; omega)⟩ ⟨row_low hr9 (Nat.zero_le _), fun x hx => owN_new (by have := (hr9.lt x hx).1; omega)⟩ ; have hS := (((((((GrowBut.setCell w4 ⟨X0, 3, none⟩ (.bool true)).trans (GrowBut.setCell _ ⟨X0, 4, none⟩ (.int .i64 k))).trans (GrowBut.setCell _ ⟨X0, 5, none⟩ (.int .i64 s))).trans (GrowBut.setCell _ ⟨X0, 6, none⟩ (.bool z))).trans (GrowBut.setCell _ ⟨X0, 7, none⟩ (.slice s7 rs.length p7))).trans (GrowBut.setCell _ ⟨X0, 8, none⟩ (.slice s8 ss.length p8))).trans (GrowBut.setCell _ ⟨X0, 9, none⟩ (.slice s9 fr.length p9))); have hGS := (hG.mono (l' := [X0]) (fun x hx => nomatch hx)).trans hS ; have h5 := h1.change hm hd hlk hGS (fun x hx _ => by simp at hx; rw [hx]; exact hX.own) hof (fun _ _ => rfl) ; have hNt := note_calls h5 m 2 hm hm0 hN hl))
    | (go_at_call 72; (refine hNt.mono ?_; clear hNt; rintro e w6 ⟨rfl, hP6, l6, hg6, hl6⟩))
    | fail)
  go_ret
  have hszS := hGS.size
  refine ⟨rfl, _, fun x hx => ?_, hP6, X0 :: l6, (((hg1.mono (fun x hx => nomatch hx)).trans (hGS.mono (by simp))).trans (hg6.mono (fun x hx => List.mem_cons_of_mem _ hx))), fun x hx hxs => ?_⟩
  · rw [owN_old x (by omega), owN_old x hx]
  · rcases List.mem_cons.1 hx with rfl | hx
    · exact .inr (.inl hX0.own)
    · rcases hl6 x hx with h1 | h1
      · rw [owN_old x hxs] at h1; exact .inr (.inr h1)
      · rw [h1]; exact .inl h.own.2.2.2.2

end Go.Proofs.Ytcoedmiichppdaa


/-
  Package pact: New, Offer refused.
-/
namespace Go.Proofs.Ytcoedmiichppdaa
open Go Go.RowKit Go.Maps Go.Am
set_option linter.unusedVariables false
set_option linter.unusedSimpArgs false

set_option maxRecDepth 100000 in
set_option maxHeartbeats 2000000 in
theorem pactNew_calls (w : World) (ow : Nat → Int) : Calls Try.prog 33 #[] w fun e w' => ∃ P MB b LB EB, e = .returned (.pointer (some ⟨P, 0, none⟩)) ∧ PactsAt w' (owN ow w (-1)) P MB b LB EB 0 (fun _ => 0) [] (fun _ => none) (fun _ => []) ∧ GrowBut w w' [] := by
  have hN := newM_calls w
  have hmm := @run_makeMap Try.prog
  go_enter Try.func33, Try.ntmps33
  go_wp2_with (first
    | (go_at_call 69; (refine hN.mono ?_; clear hN; rintro e w1 ⟨MB, b, rfl, hM, hB1, hB2, hg1⟩))
    | fail)
  clear hmm
  go_ret
  have hMl := hM.lt
  have hbl := hM.blt
  have hs1 := hg1.size
  have g2 := GrowBut.alloc w1 (.map #[] 0) []
  have g3 := GrowBut.alloc (w1.alloc (.map #[] 0)) (.map #[] 0) []
  have g4 := GrowBut.alloc ((w1.alloc (.map #[] 0)).alloc (.map #[] 0)) (.cells #[.pointer (some ⟨MB, 0, none⟩), .map (some w1.heap.size), .map (some (w1.heap.size + 1))] 115) []
  have t1 := ((TabAt.made w1 .u64 33).kept g3 (by simp)).kept g4 (by simp)
  have t2 := (TabAt.made (w1.alloc (.map #[] 0)) .u64 33).kept g4 (by simp)
  have e2 : (w1.alloc (.map #[] 0)).heap.size = w1.heap.size + 1 := by go_simp
  rw [e2] at t2
  have hM4 := ((hM.kept g2 (by simp) (by simp)).kept g3 (by simp) (by simp)).kept g4 (by simp) (by simp)
  have hne := hM.ne
  refine ⟨w1.heap.size + 2, MB, b, w1.heap.size, w1.heap.size + 1, rfl, ⟨by go_simp, by go_simp, by go_simp, hM4, ?_, ?_, ⟨_, t1, fun m => rfl⟩, ⟨_, t2, fun m hm => ⟨_, rfl, World.ownsRow_nil _ _ _ _, fun g hg => by cases hg⟩⟩, fun m hm => ?_⟩, ((hg1.trans g2).trans g3).trans g4⟩
  · exact ⟨owN_new (by omega), owN_new hB1, owN_new hB2, owN_new (by omega), owN_new (by omega)⟩
  · refine ⟨by omega, by omega, by omega, by omega, by omega, by omega, by omega, by omega, by omega⟩
  · simp at hm

set_option maxRecDepth 100000 in
set_option maxHeartbeats 2000000 in
theorem offer_no {w : World} {ow : Nat → Int} {P MB b LB EB N : Nat} {g : Nat → Int} {L : List Int} {deals : Int → Option PactR} {events : Int → List Int} (h : PactsAt w ow P MB b LB EB N g L deals events) (m : Int) (hm : (Lit.int .u64 m).wf = true) (hd : ∀ r, deals m = some r → r.offered ≠ false) {k s : Int} {z : Bool} {a7 a8 a9 : Option Addr} {n7 n8 n9 c7 c8 c9 : Nat} :
    Calls Try.prog 36 #[.pointer (some ⟨P, 0, none⟩), .int .u64 m, .agg #[.int .i64 k, .int .i64 s, .bool z, .slice a7 n7 c7, .slice a8 n8 c8], .slice a9 n9 c9] w fun e w' => e = .returned (.int .i64 (-2)) ∧ GrowBut w w' [] := by
  have hg1 := GrowBut.alloc w (.cells #[.int .i64 k, .int .i64 s, .bool z, .slice a7 n7 c7, .slice a8 n8 c8] 58) []
  have hO := of_no (h.step (ow' := ow) hg1 (fun x hx => by cases hx) (fun _ _ => rfl)) m hm false hd
  clear hd h
  go_enter Try.func36, Try.ntmps36
  go_wp2_with (first
    | (go_at_call 73; (refine hO.mono ?_; clear hO; rintro e w1 ⟨rfl, hw1⟩; rw [hw1]; clear hw1 w1))
    | fail)
  go_ret
  exact ⟨rfl, hg1⟩

set_option maxRecDepth 100000 in
set_option maxHeartbeats 2000000 in
theorem piece_none {w : World} {ow : Nat → Int} {P MB b LB EB N : Nat} {g : Nat → Int} {L : List Int} {deals : Int → Option PactR} {events : Int → List Int} (h : PactsAt w ow P MB b LB EB N g L deals events) (m s : Int) (hm : (Lit.int .u64 m).wf = true) (hd : ∀ r, deals m = some r → r.offered ≠ false) (v : Value) :
    Calls Try.prog 35 #[.pointer (some ⟨P, 0, none⟩), .int .u64 m, .int .i64 s, v] w fun e w' => e = .returned (.tuple #[.slice none 0 0, .int .i64 0, .bool false, .int .i64 (-2)]) ∧ w' = w := by
  have hO := of_no h m hm false hd
  clear h hd
  go_enter Try.func35, Try.ntmps35
  go_wp2_with (first
    | (go_at_call 73; (refine hO.mono ?_; clear hO; rintro e w1 ⟨rfl, hw1⟩; rw [hw1]; clear hw1 w1))
    | fail)
  refine bodyPost_ret_by (v := .tuple #[.slice none 0 0, .int .i64 0, .bool false, .int .i64 (-2)]) (by simp only [results, Try.f35]; go_simp) rfl ?_
  exact ⟨rfl, rfl⟩

set_option maxRecDepth 100000 in
set_option maxHeartbeats 2000000 in
theorem may_leave {w : World} {ow : Nat → Int} {P MB b LB EB N : Nat} {g : Nat → Int} {L : List Int} {deals : Int → Option PactR} {events : Int → List Int} (h : PactsAt w ow P MB b LB EB N g L deals events) (m part : Int) (hm : (Lit.int .u64 m).wf = true) (hp : (Lit.int .i64 part).wf = true) (r : PactR) (hd : deals m = some r) (ho : r.offered = true) (t : Bool) (ht : decide (part ∈ r.takers) = t) :
    Calls Try.prog 55 #[.pointer (some ⟨P, 0, none⟩), .int .u64 m, .int .i64 part, .int .i64 4] w fun e w' => e = .returned (.int .i64 (if t then 0 else -6)) ∧ w' = w := by
  obtain ⟨X, hX, hlk, hO⟩ := of_some h m hm true r hd ho
  obtain ⟨T, cT, _, hT⟩ := hX.c10
  have hlook := hT.look (t := 103) (e := 4) keyW Try.underlying3 Try.underlying103 (boolW w) hp
  rw [seenS_at, ht] at hlook
  clear hd h hX hT ht
  cases t
  · go_enter Try.func55, Try.ntmps55
    go_wp2_with fail
    go_step3
    go_wp2_with (first
      | (go_at_call 73; (refine hO.mono ?_; clear hO; rintro e w1 ⟨rfl, rfl⟩))
      | fail)
    repeat (go_step3; (try go_wp2_with fail))
    rw [Exit.noGoto_ret]
    go_ret
    exact ⟨rfl, rfl⟩
  · go_enter Try.func55, Try.ntmps55
    go_wp2_with fail
    go_step3
    go_wp2_with (first
      | (go_at_call 73; (refine hO.mono ?_; clear hO; rintro e w1 ⟨rfl, rfl⟩))
      | fail)
    repeat (go_step3; (try go_wp2_with fail))
    rw [Exit.noGoto_ret]
    go_ret
    exact ⟨rfl, rfl⟩

end Go.Proofs.Ytcoedmiichppdaa


/-
  Package pact: receives, perm.
-/
namespace Go.Proofs.Ytcoedmiichppdaa
open Go Go.RowKit Go.Maps Go.Am
set_option linter.unusedVariables false
set_option linter.unusedSimpArgs false

theorem encPr_at (ls : List (Int × Int)) : ∀ j, (encPr ls)[j * 2]? = (ls[j]?).map (fun x => .int .i64 x.1) ∧ (encPr ls)[j * 2 + 1]? = (ls[j]?).map (fun x => .int .i64 x.2) := by
  induction ls with
  | nil => intro j; simp [encPr]
  | cons x ls ih =>
    intro j
    have e : encPr (x :: ls) = .int .i64 x.1 :: .int .i64 x.2 :: encPr ls := by simp [encPr]
    rw [e]
    cases j with
    | zero => simp
    | succ j =>
      have := ih j
      rw [show (j + 1) * 2 = j * 2 + 2 by omega]
      simpa using this

theorem pairs_open {w : World} {base : Nat} {t : TypeId} {v : Value} {ls : List (Int × Int)} (hrow : w.ownsRow base t 2 v ls.length (encPr ls)) : ∃ s cap g, v = .slice s ls.length cap ∧ (0 < ls.length → s = some ⟨g, 0, none⟩ ∧ ∀ j, j < ls.length → w.cell? ⟨g, j * 2, none⟩ = some (.int .i64 (ls.getD j (0, 0)).1) ∧ w.cell? ⟨g, j * 2 + 1, none⟩ = some (.int .i64 (ls.getD j (0, 0)).2)) := by
  rcases hrow.2 with ⟨rfl, hz⟩ | ⟨g, cap, cur, rfl, hbase, hb, h1, h2, h3, h4⟩
  · exact ⟨none, 0, 0, by rw [hz], fun h => by omega⟩
  · have hcell : ∀ i, i < ls.length * 2 → w.cell? ⟨g, i, none⟩ = (encPr ls)[i]? := fun i hi => by
      have h5 : (cur.toList.take (ls.length * 2))[i]? = (encPr ls)[i]? := by rw [h4]
      rw [List.getElem?_take_of_lt (by omega)] at h5
      rw [← h5]
      simp only [World.cell?, hb]
      simp
    refine ⟨_, cap, g, rfl, fun _ => ⟨rfl, fun j hj => ?_⟩⟩
    have hm : ls[j]? = some (ls.getD j (0, 0)) := by rw [List.getD_eq_getElem?_getD, List.getElem?_eq_getElem hj]; rfl
    refine ⟨?_, ?_⟩
    · rw [hcell _ (by omega), (encPr_at ls j).1, hm]; rfl
    · rw [hcell _ (by omega), (encPr_at ls j).2, hm]; rfl

theorem take_snocP {α : Type} {d : α} {l : List α} {j : Nat} (h : j < l.length) : l.take (j + 1) = l.take j ++ [l.getD j d] := by
  rw [List.take_add_one, List.getElem?_eq_getElem h, List.getD_eq_getElem?_getD, List.getElem?_eq_getElem h]; rfl

/-- Whether a part is among the receivers; what it may. -/
def recvB (rs : List (Int × Int)) (part : Int) : Bool := rs.any fun x => x.1 == part

def permF (rs : List (Int × Int)) (part : Int) : Int := match rs with
  | [] => 0
  | x :: r => if x.1 = part then x.2 else permF r part

theorem permF_skip {rs : List (Int × Int)} {part : Int} {j : Nat} (hj : j ≤ rs.length) (h : recvB (rs.take j) part = false) : permF rs part = permF (rs.drop j) part := by
  induction rs generalizing j with
  | nil => simp
  | cons x r ih =>
    cases j with
    | zero => rfl
    | succ j =>
      simp only [recvB, List.take_succ_cons, List.any_cons, Bool.or_eq_false_iff] at h
      have h1 : ¬ x.1 = part := by simpa using h.1
      simp only [permF, if_neg h1, List.drop_succ_cons]
      exact ih (by simpa using hj) h.2

theorem permF_hit {rs : List (Int × Int)} {part : Int} {j : Nat} (hj : j < rs.length) (h : recvB (rs.take j) part = false) (he : (rs.getD j (0, 0)).1 = part) : permF rs part = (rs.getD j (0, 0)).2 := by
  rw [permF_skip (by omega) h, List.drop_eq_getElem_cons hj]
  have hm : rs[j] = rs.getD j (0, 0) := by rw [List.getD_eq_getElem?_getD, List.getElem?_eq_getElem hj]; rfl
  rw [hm]
  simp only [permF, if_pos he]

theorem recvB_snoc {rs : List (Int × Int)} {part : Int} {j : Nat} (hj : j < rs.length) : recvB (rs.take (j + 1)) part = (recvB (rs.take j) part || ((rs.getD j (0, 0)).1 == part)) := by
  rw [take_snocP (d := (0, 0)) hj]
  simp [recvB]

theorem recvB_hit {rs : List (Int × Int)} {part : Int} {j : Nat} (hj : j < rs.length) (he : (rs.getD j (0, 0)).1 = part) : recvB rs part = true := by
  rw [recvB, List.any_eq_true]
  refine ⟨rs.getD j (0, 0), ?_, by simpa using he⟩
  rw [List.getD_eq_getElem?_getD, List.getElem?_eq_getElem hj]
  simp

theorem permF_none {rs : List (Int × Int)} {part : Int} (h : recvB rs part = false) : permF rs part = 0 := by
  rw [permF_skip (j := rs.length) (Nat.le_refl _) (by rw [List.take_length]; exact h), List.drop_length]
  rfl

set_option maxRecDepth 100000 in
set_option maxHeartbeats 4000000 in
theorem recvP_calls (a b part : Int) (X : Nat) (w : World) (hX : w.cell? ⟨X, 0, none⟩ = some (.int .i64 part)) : Calls Try.prog 106 #[.agg #[.int .i64 a, .int .i64 b], .pointer (some ⟨X, 0, none⟩)] w fun e w' => e = .returned (.bool (a == part)) ∧ GrowBut w w' [] := by
  have hg := GrowBut.alloc w (.cells #[.int .i64 a, .int .i64 b] 52) []
  have hc := hg.cell hX (by simp)
  go_enter Try.func106, Try.ntmps106
  go_wp2_with fail
  go_ret
  exact ⟨rfl, hg⟩

/-- A function value that tells of a receiver. -/
def TellsR (fn : Nat) (lb : Array Value) (part : Int) (w : World) : Prop := ∀ w1 v a b, v = Value.agg #[.int .i64 a, .int .i64 b] → GrowBut w w1 [] → Calls Try.prog fn (#[v] ++ lb) w1 fun e w2 => e = .returned (.bool (a == part)) ∧ GrowBut w1 w2 []

set_option maxRecDepth 100000 in
set_option maxHeartbeats 4000000 in
theorem recvIdx_calls {base : Nat} {v : Value} {rs : List (Int × Int)} {part : Int} {w : World} (fn : Nat) (lb : Array Value) (eg : ∀ args w, (callFunc fn args).run Try.prog w = .ok (.enter fn args) w) (h : w.ownsRow base 52 2 v rs.length (encPr rs)) (hp : TellsR fn lb part w) (hl : rs.length ≤ 100000) : Calls Try.prog 115 #[v, .func (.func fn) #[] lb] w fun e w' => ∃ j : Int, e = .returned (.int .i64 j) ∧ decide (0 ≤ j) = recvB rs part ∧ GrowBut w w' [] := by
  obtain ⟨s, cap, g, rfl, hcs⟩ := pairs_open h
  go_enter Try.func115, Try.ntmps115
  go_wp2_with fail
  go_loopw [8] (fun v8 wx => ∃ j : Nat, v8 = .int .i64 j ∧ j ≤ rs.length ∧ recvB (rs.take j) part = false ∧ GrowBut w wx []) (fun v8 _ => rs.length - intOf v8)
  case atStart => exact ⟨0, rfl, by omega, rfl, .refl _ _⟩
  case round =>
    obtain ⟨j, rfl, hj, hno, hG⟩ := hrel
    by_cases hlt : j < rs.length
    · have hlt' : (j : Int) < (rs.length : Int) := by omega
      obtain ⟨rfl, hcs'⟩ := hcs (by omega)
      obtain ⟨c0, c1⟩ := hcs' j hlt
      have c0 := hG.cell c0 (by simp)
      have c1 := hG.cell c1 (by simp)
      have hsn := recvB_snoc (part := part) hlt
      rw [hno, Bool.false_or] at hsn
      have hit := recvB_hit (part := part) hlt
      clear hcs hcs' h
      generalize rs.getD j (0, 0) = z at c0 c1 hsn hit
      obtain ⟨a, b⟩ := z
      simp only at c0 c1 hsn hit
      obtain ⟨va, hva⟩ : ∃ va, va = Value.agg #[.int .i64 a, .int .i64 b] := ⟨_, rfl⟩
      have hP := hp wr _ a b hva hG
      rw [hva] at hP
      by_cases hap : a = part
      · have hb : (a == part) = true := by simpa using hap
        rw [hb] at hP
        have hit' := hit hap
        clear hsn hit hb hva hap
        go_wp2_with (first
          | (go_at_fn fn; (refine hP.mono ?_; clear hP; rintro e w2 ⟨rfl, hg2⟩))
          | fail)
        go_ret
        exact ⟨j, rfl, by first | omega | (rw [hit']; simp), hG.trans hg2⟩
      · have hb : (a == part) = false := by simpa using hap
        rw [hb] at hP hsn
        clear hit hb hap hva
        go_wp2_with (first
          | (go_at_fn fn; (refine hP.mono ?_; clear hP; rintro e w2 ⟨rfl, hg2⟩))
          | fail)
        exact ⟨⟨j + 1, by simp, by omega, hsn, hG.trans hg2⟩, by simp [intOf]; omega⟩
    · have hge : ¬ (j : Int) < (rs.length : Int) := by omega
      have hjl : j = rs.length := by omega
      rw [hjl, List.take_length] at hno
      go_wp2_with fail
      go_ret
      exact ⟨-1, rfl, by first | omega | (rw [hno]; rfl), hG⟩

set_option maxRecDepth 100000 in
set_option maxHeartbeats 4000000 in
theorem receives_calls {w : World} {ow : Nat → Int} {m : Int} {X N : Nat} {r : PactR} (h : PactAt w ow m X N r) (part : Int) (hl : r.d.recvs.length ≤ 100000) : Calls Try.prog 91 #[.pointer (some ⟨X, 0, none⟩), .int .i64 part] w fun e w' => e = .returned (.bool (recvB r.d.recvs part)) ∧ GrowBut w w' [] := by
  obtain ⟨v7, c7, hr7, _⟩ := h.c7
  have hg1 := GrowBut.alloc w (.cells #[.int .i64 part] 3) []
  have hB : (w.alloc (.cells #[.int .i64 part] 3)).cell? ⟨w.heap.size, 0, none⟩ = some (.int .i64 part) := by go_simp
  have c7' := hg1.cell c7 (by simp)
  have hT : TellsR 106 #[.pointer (some ⟨w.heap.size, 0, none⟩)] part (w.alloc (.cells #[.int .i64 part] 3)) := fun w1 v a b hv hg => by
    subst hv
    exact recvP_calls a b part w.heap.size w1 (hg.cell hB (by simp))
  have hI := recvIdx_calls _ _ (enters_of Try.func106 (by kernel_rfl) rfl) (hg1.row hr7 (by simp)) hT hl
  have hC : Calls Try.prog 105 #[v7, .func (.func 106) #[] #[.pointer (some ⟨w.heap.size, 0, none⟩)]] (w.alloc (.cells #[.int .i64 part] 3)) fun e w' => e = .returned (.bool (recvB r.d.recvs part)) ∧ GrowBut (w.alloc (.cells #[.int .i64 part] 3)) w' [] := by
    go_enter Try.func105, Try.ntmps105
    go_wp2_with (first
      | (go_at_call 115; (refine hI.mono ?_; clear hI; rintro e w2 ⟨j, rfl, hj, hg2⟩))
      | fail)
    go_ret
    exact ⟨by rw [← hj]; rfl, hg2⟩
  clear hI hT hB
  go_enter Try.func91, Try.ntmps91
  go_wp2_with (first
    | (go_at_call 105; (refine hC.mono ?_; clear hC; rintro e w2 ⟨rfl, hg2⟩))
    | fail)
  go_ret
  exact ⟨rfl, hg1.trans hg2⟩

set_option maxRecDepth 100000 in
set_option maxHeartbeats 4000000 in
theorem perm_calls {w : World} {ow : Nat → Int} {m : Int} {X N : Nat} {r : PactR} (h : PactAt w ow m X N r) (part : Int) (hl : r.d.recvs.length ≤ 100000) : Calls Try.prog 81 #[.pointer (some ⟨X, 0, none⟩), .int .i64 part] w fun e w' => e = .returned (.int .i64 (permF r.d.recvs part)) ∧ GrowBut w w' [] := by
  obtain ⟨v7, c7, hr7, _⟩ := h.c7
  clear h
  generalize r.d.recvs = rs at *
  obtain ⟨s, cap, g, rfl, hcs⟩ := pairs_open hr7
  go_enter Try.func81, Try.ntmps81
  go_wp2_with fail
  go_loopw [13] (fun v13 wx => ∃ j : Nat, v13 = .int .i64 j ∧ j ≤ rs.length ∧ recvB (rs.take j) part = false ∧ GrowBut w wx []) (fun v13 _ => rs.length - intOf v13)
  case atStart => exact ⟨0, rfl, by omega, rfl, .refl _ _⟩
  case round =>
    obtain ⟨j, rfl, hj, hno, hG⟩ := hrel
    by_cases hlt : j < rs.length
    · have hlt' : (j : Int) < (rs.length : Int) := by omega
      obtain ⟨rfl, hcs'⟩ := hcs (by omega)
      obtain ⟨c0, c1⟩ := hcs' j hlt
      have c0 := hG.cell c0 (by simp)
      have c1 := hG.cell c1 (by simp)
      have hsn := recvB_snoc (part := part) hlt
      rw [hno, Bool.false_or] at hsn
      have hit := permF_hit (part := part) hlt hno
      clear hcs hcs' hr7
      generalize rs.getD j (0, 0) = z at c0 c1 hsn hit
      obtain ⟨a, b⟩ := z
      simp only at c0 c1 hsn hit
      have hga := GrowBut.alloc wr (.cells #[.int .i64 a, .int .i64 b] 52) []
      by_cases hap : a = part
      · have hit' := hit hap
        clear hsn hit
        subst hap
        go_wp2_with fail
        go_ret
        exact ⟨by rw [hit']; rfl, hG.trans hga⟩
      · have hb : (a == part) = false := by simpa using hap
        rw [hb] at hsn
        clear hit
        go_wp2_with fail
        exact ⟨⟨j + 1, by simp, by omega, hsn, hG.trans hga⟩, by simp [intOf]; omega⟩
    · have hge : ¬ (j : Int) < (rs.length : Int) := by omega
      have hjl : j = rs.length := by omega
      rw [hjl, List.take_length] at hno
      have hno' := permF_none hno
      clear hno
      go_wp2_with fail
      go_ret
      exact ⟨by first | rfl | (rw [hno']; rfl), hG⟩

end Go.Proofs.Ytcoedmiichppdaa


/-
  Package pact: May, whole.
-/
namespace Go.Proofs.Ytcoedmiichppdaa
open Go Go.RowKit Go.Maps Go.Am
set_option linter.unusedVariables false
set_option linter.unusedSimpArgs false

/-- What May says of a deal that is offered. -/
def mayR (r : PactR) (part ev : Int) : Int :=
  if ev = 3 then (if recvB r.d.recvs part = true ∧ part ∉ r.takers then 0 else -6)
  else if ev = 4 then (if part ∈ r.takers then 0 else -6)
  else if ev = 5 then (if r.sender = part ∧ r.takers = [] then 0 else -6)
  else -2

/-- What May says. -/
def mayF (o : Option PactR) (part ev : Int) : Int := match o with
  | some r => if r.offered then mayR r part ev else -2
  | none => -2

set_option maxRecDepth 100000 in
set_option maxHeartbeats 4000000 in
theorem may_take {w : World} {ow : Nat → Int} {P MB b LB EB N : Nat} {g : Nat → Int} {L : List Int} {deals : Int → Option PactR} {events : Int → List Int} (h : PactsAt w ow P MB b LB EB N g L deals events) (m part : Int) (hm : (Lit.int .u64 m).wf = true) (hp : (Lit.int .i64 part).wf = true) (r : PactR) (hd : deals m = some r) (ho : r.offered = true) (hl : r.d.recvs.length ≤ 100000) :
    Calls Try.prog 55 #[.pointer (some ⟨P, 0, none⟩), .int .u64 m, .int .i64 part, .int .i64 3] w fun e w' => e = .returned (.int .i64 (mayR r part 3)) ∧ GrowBut w w' [] := by
  obtain ⟨X, hX, hlk, hO⟩ := of_some h m hm true r hd ho
  obtain ⟨T, cT, _, hT⟩ := hX.c10
  have hR := receives_calls hX part hl
  have hlook := fun w' (hg : GrowBut w w' []) => (hT.kept hg (by simp)).look (t := 103) (e := 4) keyW Try.underlying3 Try.underlying103 (boolW w') hp
  simp only [seenS_at] at hlook
  have hmr : mayR r part 3 = if recvB r.d.recvs part = true ∧ part ∉ r.takers then 0 else -6 := by simp [mayR]
  rw [hmr]
  clear hd h hX hT hmr
  by_cases hr : recvB r.d.recvs part = true
  · rw [hr] at hR ⊢
    by_cases ht : part ∈ r.takers
    · rw [decide_eq_true ht] at hlook
      rw [if_neg (fun e => e.2 ht)]
      clear hr ht
      go_enter Try.func55, Try.ntmps55
      go_wp2_with fail
      go_step3
      go_wp2_with (first
        | (go_at_call 73; (refine hO.mono ?_; clear hO; rintro e w1 ⟨rfl, hw1⟩; rw [hw1]; clear hw1 w1))
        | (go_at_call 91; (refine hR.mono ?_; clear hR; rintro e w2 ⟨rfl, hg2⟩; have cT2 := hg2.cell cT (by simp); have hlk2 := hlook w2 hg2))
        | fail)
      repeat (go_step3; (try go_wp2_with (first
        | (go_at_call 91; (refine hR.mono ?_; clear hR; rintro e w2 ⟨rfl, hg2⟩; have cT2 := hg2.cell cT (by simp); have hlk2 := hlook w2 hg2; clear hlook))
        | fail)))
      rw [Exit.noGoto_ret]
      go_ret
      exact ⟨rfl, hg2⟩
    · rw [decide_eq_false ht] at hlook
      rw [if_pos ⟨rfl, ht⟩]
      clear hr ht
      go_enter Try.func55, Try.ntmps55
      go_wp2_with fail
      go_step3
      go_wp2_with (first
        | (go_at_call 73; (refine hO.mono ?_; clear hO; rintro e w1 ⟨rfl, hw1⟩; rw [hw1]; clear hw1 w1))
        | (go_at_call 91; (refine hR.mono ?_; clear hR; rintro e w2 ⟨rfl, hg2⟩; have cT2 := hg2.cell cT (by simp); have hlk2 := hlook w2 hg2))
        | fail)
      repeat (go_step3; (try go_wp2_with (first
        | (go_at_call 91; (refine hR.mono ?_; clear hR; rintro e w2 ⟨rfl, hg2⟩; have cT2 := hg2.cell cT (by simp); have hlk2 := hlook w2 hg2; clear hlook))
        | fail)))
      rw [Exit.noGoto_ret]
      go_ret
      exact ⟨rfl, hg2⟩
  · have hr' : recvB r.d.recvs part = false := by simpa using hr
    rw [hr'] at hR
    rw [if_neg (fun e => by rw [hr'] at e; cases e.1)]
    clear hlook hr hr'
    go_enter Try.func55, Try.ntmps55
    go_wp2_with fail
    go_step3
    go_wp2_with (first
      | (go_at_call 73; (refine hO.mono ?_; clear hO; rintro e w1 ⟨rfl, hw1⟩; rw [hw1]; clear hw1 w1))
      | (go_at_call 91; (refine hR.mono ?_; clear hR; rintro e w2 ⟨rfl, hg2⟩))
      | fail)
    repeat (go_step3; (try go_wp2_with (first
      | (go_at_call 91; (refine hR.mono ?_; clear hR; rintro e w2 ⟨rfl, hg2⟩))
      | fail)))
    rw [Exit.noGoto_ret]
    go_ret
    exact ⟨rfl, hg2⟩

set_option maxRecDepth 100000 in
set_option maxHeartbeats 4000000 in
theorem may_recl {w : World} {ow : Nat → Int} {P MB b LB EB N : Nat} {g : Nat → Int} {L : List Int} {deals : Int → Option PactR} {events : Int → List Int} (h : PactsAt w ow P MB b LB EB N g L deals events) (m part : Int) (hm : (Lit.int .u64 m).wf = true) (r : PactR) (hd : deals m = some r) (ho : r.offered = true) :
    Calls Try.prog 55 #[.pointer (some ⟨P, 0, none⟩), .int .u64 m, .int .i64 part, .int .i64 5] w fun e w' => e = .returned (.int .i64 (mayR r part 5)) ∧ GrowBut w w' [] := by
  obtain ⟨X, hX, hlk, hO⟩ := of_some h m hm true r hd ho
  have c0 := hX.c0
  obtain ⟨T, cT, _, hT⟩ := hX.c10
  have hlen := hT.len_run hX.nd
  have hmr : mayR r part 5 = if r.sender = part ∧ r.takers = [] then 0 else -6 := by simp [mayR]
  rw [hmr]
  clear hd h hX hT hmr
  by_cases hs : r.sender = part
  · rw [hs] at c0
    by_cases ht : r.takers = []
    · rw [if_pos ⟨hs, ht⟩]
      rw [ht] at hlen
      clear hs ht
      go_enter Try.func55, Try.ntmps55
      go_wp2_with fail
      go_step3
      go_wp2_with (first
        | (go_at_call 73; (refine hO.mono ?_; clear hO; rintro e w1 ⟨rfl, rfl⟩))
        | fail)
      repeat (go_step3; (try go_wp2_with fail))
      rw [Exit.noGoto_ret]
      go_ret
      exact ⟨rfl, .refl _ _⟩
    · rw [if_neg (fun e => ht e.2)]
      have hpos : 0 < r.takers.length := by cases hh : r.takers with | nil => exact absurd hh ht | cons x l => simp
      have hpos' : (0 : Int) < (r.takers.length : Int) := by omega
      clear hs ht
      generalize r.takers.length = n at hlen hpos hpos'
      go_enter Try.func55, Try.ntmps55
      go_wp2_with fail
      go_step3
      go_wp2_with (first
        | (go_at_call 73; (refine hO.mono ?_; clear hO; rintro e w1 ⟨rfl, rfl⟩))
        | fail)
      repeat (go_step3; (try go_wp2_with fail))
      rw [Exit.noGoto_ret]
      go_ret
      exact ⟨rfl, .refl _ _⟩
  · rw [if_neg (fun e => hs e.1)]
    have hs' : (r.sender == part) = false := by simpa using hs
    clear hlen
    generalize r.sender = s at c0 hs hs'
    go_enter Try.func55, Try.ntmps55
    go_wp2_with fail
    go_step3
    go_wp2_with (first
      | (go_at_call 73; (refine hO.mono ?_; clear hO; rintro e w1 ⟨rfl, rfl⟩))
      | fail)
    repeat (go_step3; (try go_wp2_with fail))
    rw [Exit.noGoto_ret]
    go_ret
    exact ⟨rfl, .refl _ _⟩

end Go.Proofs.Ytcoedmiichppdaa


/-
  Package pact: Take, Leave, Reclaim.
-/
namespace Go.Proofs.Ytcoedmiichppdaa
open Go Go.RowKit Go.Maps Go.Am
set_option linter.unusedVariables false
set_option linter.unusedSimpArgs false

theorem PactsAt.moreN {N' : Nat} {w : World} {ow : Nat → Int} {P MB b LB EB N : Nat} {g : Nat → Int} {L : List Int} {deals : Int → Option PactR} {events : Int → List Int} (h : PactsAt w ow P MB b LB EB N g L deals events) (hn : N ≤ N') : PactsAt w ow P MB b LB EB N' g L deals events := by
  obtain ⟨fl, htl, hdl⟩ := h.tl
  obtain ⟨fe, hte, hev⟩ := h.te
  refine ⟨h.p0, h.p1, h.p2, h.marks.moreP hn, h.own, h.ne, ⟨fl, htl.mono hn, fun m => ?_⟩, ⟨fe, hte.mono hn, hev⟩, h.pos⟩
  exact DealSays.step (hdl m) (GrowBut.refl _ []) (fun x hx => by cases hx) (fun _ _ => rfl) hn

/-- Other takers. -/
theorem PactAt.tabbed {w w' : World} {ow : Nat → Int} {m : Int} {X N N' T : Nat} {r : PactR} {ts : List Int} (h : PactAt w ow m X N r) (hT : w.cell? ⟨X, 10, none⟩ = some (.map (some T))) (hg : GrowBut w w' [T]) (ht : TabAt w' .i64 3 T N' (seenS ts)) (hnd : ts.Nodup) : PactAt w' ow m X N' { r with takers := ts } := by
  obtain ⟨Y, hY, hP⟩ := h.c2
  obtain ⟨v7, h7, h7'⟩ := h.c7
  obtain ⟨v8, h8, h8'⟩ := h.c8
  obtain ⟨v9, h9, h9'⟩ := h.c9
  obtain ⟨T', hT', hTo, hTt⟩ := h.c10
  obtain rfl : T = T' := by rw [hT] at hT'; simpa using hT'
  have hX := cell_lt h.c0
  have hno : ∀ e, ∀ x ∈ [T], ¬ Typed w x e := fun e x hx hx' => by
    simp at hx; subst hx
    exact hx'.ne_tab hTt rfl
  have hn : X ∉ [T] := fun hm => hno _ X hm h.ty
  have hP' := hP.other hg (fun x hx => ⟨hno _ x hx, hno _ x hx⟩) (ow' := ow) (fun _ _ => rfl)
  exact ⟨h.own, h.ty.kept hg hn, hg.cell h.c0 hn, hg.cell h.c1 hn, ⟨Y, hg.cell hY hn, hP'⟩, hg.cell h.c3 hn, hg.cell h.c4 hn, hg.cell h.c5 hn, hg.cell h.c6 hn,
    ⟨v7, hg.cell h7 hn, h7'.other hg (hno _) (fun _ _ => rfl)⟩, ⟨v8, hg.cell h8 hn, h8'.other hg (hno _) (fun _ _ => rfl)⟩, ⟨v9, hg.cell h9 hn, h9'.other hg (hno _) (fun _ _ => rfl)⟩, ⟨T, hg.cell hT hn, hTo, ht⟩, hnd, fun i hi => hg.frozen hX (h.fz i hi) hn⟩

theorem of_same {w w' : World} {ow ow' : Nat → Int} {P MB b LB EB N N' : Nat} {g g' : Nat → Int} {L L' : List Int} {deals deals' : Int → Option PactR} {events events' : Int → List Int} (h : PactsAt w ow P MB b LB EB N g L deals events) (h' : PactsAt w' ow' P MB b LB EB N' g' L' deals' events') {l : List Nat} (hg : GrowBut w w' l) (hL : LB ∉ l) {m : Int} (hm : (Lit.int .u64 m).wf = true) {X : Nat} (hlk : (Instr.lookup 113 (.map (some LB)) (.int .u64 m) false).run Try.prog w = .ok (.pointer (some ⟨X, 0, none⟩)) w) : (Instr.lookup 113 (.map (some LB)) (.int .u64 m) false).run Try.prog w' = .ok (.pointer (some ⟨X, 0, none⟩)) w' := by
  obtain ⟨fl, htl, hdl⟩ := h.tl
  have h1 := htl.look (t := 113) (e := 120) lawU Try.underlying33 Try.underlying113 (zeroPp w) hm
  have h2 := (htl.kept hg hL).look (t := 113) (e := 120) lawU Try.underlying33 Try.underlying113 (zeroPp w') hm
  rw [hlk] at h1
  rw [h2]
  simp at h1 ⊢
  exact h1.symm

set_option maxRecDepth 100000 in
set_option maxHeartbeats 8000000 in
theorem take_no (P : Nat) (m part er : Int) (w : World) (her : er ≠ 0) (hM : Calls Try.prog 55 #[.pointer (some ⟨P, 0, none⟩), .int .u64 m, .int .i64 part, .int .i64 3] (w.alloc (.cells #[.int .i64 0, .int .i64 0, .bool false, .slice none 0 0, .slice none 0 0] 58)) fun e w' => e = .returned (.int .i64 er) ∧ GrowBut (w.alloc (.cells #[.int .i64 0, .int .i64 0, .bool false, .slice none 0 0, .slice none 0 0] 58)) w' []) :
    Calls Try.prog 37 #[.pointer (some ⟨P, 0, none⟩), .int .u64 m, .int .i64 part] w fun e w' => e = .returned (.tuple #[.agg #[.int .i64 0, .int .i64 0, .bool false, .slice none 0 0, .slice none 0 0], .slice none 0 0, .int .i64 0, .int .i64 er]) ∧ GrowBut w w' [] := by
  have hg := GrowBut.alloc w (.cells #[.int .i64 0, .int .i64 0, .bool false, .slice none 0 0, .slice none 0 0] 58) []
  have hB0 : (w.alloc (.cells #[.int .i64 0, .int .i64 0, .bool false, .slice none 0 0, .slice none 0 0] 58)).cell? ⟨w.heap.size, 0, none⟩ = some (.int .i64 0) := by go_simp
  have hB1 : (w.alloc (.cells #[.int .i64 0, .int .i64 0, .bool false, .slice none 0 0, .slice none 0 0] 58)).cell? ⟨w.heap.size, 1, none⟩ = some (.int .i64 0) := by go_simp
  have hB2 : (w.alloc (.cells #[.int .i64 0, .int .i64 0, .bool false, .slice none 0 0, .slice none 0 0] 58)).cell? ⟨w.heap.size, 2, none⟩ = some (.bool false) := by go_simp
  have hB3 : (w.alloc (.cells #[.int .i64 0, .int .i64 0, .bool false, .slice none 0 0, .slice none 0 0] 58)).cell? ⟨w.heap.size, 3, none⟩ = some (.slice none 0 0) := by go_simp
  have hB4 : (w.alloc (.cells #[.int .i64 0, .int .i64 0, .bool false, .slice none 0 0, .slice none 0 0] 58)).cell? ⟨w.heap.size, 4, none⟩ = some (.slice none 0 0) := by go_simp
  have hBf : ∀ i, i < 5 → (w.alloc (.cells #[.int .i64 0, .int .i64 0, .bool false, .slice none 0 0, .slice none 0 0] 58)).frozen? ⟨w.heap.size, i, none⟩ = false := fun i hi => by go_simp
  have hBl : w.heap.size < (w.alloc (.cells #[.int .i64 0, .int .i64 0, .bool false, .slice none 0 0, .slice none 0 0] 58)).heap.size := by go_simp
  go_enter Try.func37, Try.ntmps37
  go_wp2_with (first
    | (go_at_call 55; (refine hM.mono ?_; clear hM; rintro e w1 ⟨rfl, hg1⟩; have a0 := hg1.cell hB0 (by simp); have a1 := hg1.cell hB1 (by simp); have a2 := hg1.cell hB2 (by simp); have a3 := hg1.cell hB3 (by simp); have a4 := hg1.cell hB4 (by simp); have af := fun i (hi : i < 5) => hg1.frozen (a := ⟨w.heap.size, i, none⟩) hBl (hBf i hi) (by simp)))
    | fail)
  have hS := (((((GrowBut.setCell w1 ⟨w.heap.size, 0, none⟩ (.int .i64 0)).trans (GrowBut.setCell _ ⟨w.heap.size, 1, none⟩ (.int .i64 0))).trans (GrowBut.setCell _ ⟨w.heap.size, 2, none⟩ (.bool false))).trans (GrowBut.setCell _ ⟨w.heap.size, 3, none⟩ (.slice none 0 0))).trans (GrowBut.setCell _ ⟨w.heap.size, 4, none⟩ (.slice none 0 0)))
  refine bodyPost_ret_by (v := .tuple #[.agg #[.int .i64 0, .int .i64 0, .bool false, .slice none 0 0, .slice none 0 0], .slice none 0 0, .int .i64 0, .int .i64 er]) (by clear hS; simp only [results, Try.f37]; go_simp) rfl ?_
  exact ⟨rfl, (hg.trans hg1).from hS (fun x hx => .inr (by simp at hx; omega))⟩

set_option maxRecDepth 100000 in
set_option maxHeartbeats 8000000 in
theorem leave_no (P : Nat) (m part er : Int) (w : World) (her : er ≠ 0) (hM : Calls Try.prog 55 #[.pointer (some ⟨P, 0, none⟩), .int .u64 m, .int .i64 part, .int .i64 4] (w.alloc (.cells #[.int .i64 0, .int .i64 0, .bool false, .slice none 0 0, .slice none 0 0] 58)) fun e w' => e = .returned (.int .i64 er) ∧ GrowBut (w.alloc (.cells #[.int .i64 0, .int .i64 0, .bool false, .slice none 0 0, .slice none 0 0] 58)) w' []) :
    Calls Try.prog 38 #[.pointer (some ⟨P, 0, none⟩), .int .u64 m, .int .i64 part] w fun e w' => e = .returned (.tuple #[.agg #[.int .i64 0, .int .i64 0, .bool false, .slice none 0 0, .slice none 0 0], .slice none 0 0, .int .i64 er]) ∧ GrowBut w w' [] := by
  have hg := GrowBut.alloc w (.cells #[.int .i64 0, .int .i64 0, .bool false, .slice none 0 0, .slice none 0 0] 58) []
  have hB0 : (w.alloc (.cells #[.int .i64 0, .int .i64 0, .bool false, .slice none 0 0, .slice none 0 0] 58)).cell? ⟨w.heap.size, 0, none⟩ = some (.int .i64 0) := by go_simp
  have hB1 : (w.alloc (.cells #[.int .i64 0, .int .i64 0, .bool false, .slice none 0 0, .slice none 0 0] 58)).cell? ⟨w.heap.size, 1, none⟩ = some (.int .i64 0) := by go_simp
  have hB2 : (w.alloc (.cells #[.int .i64 0, .int .i64 0, .bool false, .slice none 0 0, .slice none 0 0] 58)).cell? ⟨w.heap.size, 2, none⟩ = some (.bool false) := by go_simp
  have hB3 : (w.alloc (.cells #[.int .i64 0, .int .i64 0, .bool false, .slice none 0 0, .slice none 0 0] 58)).cell? ⟨w.heap.size, 3, none⟩ = some (.slice none 0 0) := by go_simp
  have hB4 : (w.alloc (.cells #[.int .i64 0, .int .i64 0, .bool false, .slice none 0 0, .slice none 0 0] 58)).cell? ⟨w.heap.size, 4, none⟩ = some (.slice none 0 0) := by go_simp
  have hBf : ∀ i, i < 5 → (w.alloc (.cells #[.int .i64 0, .int .i64 0, .bool false, .slice none 0 0, .slice none 0 0] 58)).frozen? ⟨w.heap.size, i, none⟩ = false := fun i hi => by go_simp
  have hBl : w.heap.size < (w.alloc (.cells #[.int .i64 0, .int .i64 0, .bool false, .slice none 0 0, .slice none 0 0] 58)).heap.size := by go_simp
  go_enter Try.func38, Try.ntmps38
  go_wp2_with (first
    | (go_at_call 55; (refine hM.mono ?_; clear hM; rintro e w1 ⟨rfl, hg1⟩; have a0 := hg1.cell hB0 (by simp); have a1 := hg1.cell hB1 (by simp); have a2 := hg1.cell hB2 (by simp); have a3 := hg1.cell hB3 (by simp); have a4 := hg1.cell hB4 (by simp); have af := fun i (hi : i < 5) => hg1.frozen (a := ⟨w.heap.size, i, none⟩) hBl (hBf i hi) (by simp)))
    | fail)
  have hS := (((((GrowBut.setCell w1 ⟨w.heap.size, 0, none⟩ (.int .i64 0)).trans (GrowBut.setCell _ ⟨w.heap.size, 1, none⟩ (.int .i64 0))).trans (GrowBut.setCell _ ⟨w.heap.size, 2, none⟩ (.bool false))).trans (GrowBut.setCell _ ⟨w.heap.size, 3, none⟩ (.slice none 0 0))).trans (GrowBut.setCell _ ⟨w.heap.size, 4, none⟩ (.slice none 0 0)))
  refine bodyPost_ret_by (v := .tuple #[.agg #[.int .i64 0, .int .i64 0, .bool false, .slice none 0 0, .slice none 0 0], .slice none 0 0, .int .i64 er]) (by clear hS; simp only [results, Try.f38]; go_simp) rfl ?_
  exact ⟨rfl, (hg.trans hg1).from hS (fun x hx => .inr (by simp at hx; omega))⟩

set_option maxRecDepth 100000 in
set_option maxHeartbeats 8000000 in
theorem reclaim_no (P : Nat) (m part er : Int) (w : World) (her : er ≠ 0) (hM : Calls Try.prog 55 #[.pointer (some ⟨P, 0, none⟩), .int .u64 m, .int .i64 part, .int .i64 5] (w.alloc (.cells #[.int .i64 0, .int .i64 0, .bool false, .slice none 0 0, .slice none 0 0] 58)) fun e w' => e = .returned (.int .i64 er) ∧ GrowBut (w.alloc (.cells #[.int .i64 0, .int .i64 0, .bool false, .slice none 0 0, .slice none 0 0] 58)) w' []) :
    Calls Try.prog 39 #[.pointer (some ⟨P, 0, none⟩), .int .u64 m, .int .i64 part] w fun e w' => e = .returned (.tuple #[.agg #[.int .i64 0, .int .i64 0, .bool false, .slice none 0 0, .slice none 0 0], .slice none 0 0, .int .i64 er]) ∧ GrowBut w w' [] := by
  have hg := GrowBut.alloc w (.cells #[.int .i64 0, .int .i64 0, .bool false, .slice none 0 0, .slice none 0 0] 58) []
  have hB0 : (w.alloc (.cells #[.int .i64 0, .int .i64 0, .bool false, .slice none 0 0, .slice none 0 0] 58)).cell? ⟨w.heap.size, 0, none⟩ = some (.int .i64 0) := by go_simp
  have hB1 : (w.alloc (.cells #[.int .i64 0, .int .i64 0, .bool false, .slice none 0 0, .slice none 0 0] 58)).cell? ⟨w.heap.size, 1, none⟩ = some (.int .i64 0) := by go_simp
  have hB2 : (w.alloc (.cells #[.int .i64 0, .int .i64 0, .bool false, .slice none 0 0, .slice none 0 0] 58)).cell? ⟨w.heap.size, 2, none⟩ = some (.bool false) := by go_simp
  have hB3 : (w.alloc (.cells #[.int .i64 0, .int .i64 0, .bool false, .slice none 0 0, .slice none 0 0] 58)).cell? ⟨w.heap.size, 3, none⟩ = some (.slice none 0 0) := by go_simp
  have hB4 : (w.alloc (.cells #[.int .i64 0, .int .i64 0, .bool false, .slice none 0 0, .slice none 0 0] 58)).cell? ⟨w.heap.size, 4, none⟩ = some (.slice none 0 0) := by go_simp
  have hBf : ∀ i, i < 5 → (w.alloc (.cells #[.int .i64 0, .int .i64 0, .bool false, .slice none 0 0, .slice none 0 0] 58)).frozen? ⟨w.heap.size, i, none⟩ = false := fun i hi => by go_simp
  have hBl : w.heap.size < (w.alloc (.cells #[.int .i64 0, .int .i64 0, .bool false, .slice none 0 0, .slice none 0 0] 58)).heap.size := by go_simp
  go_enter Try.func39, Try.ntmps39
  go_wp2_with (first
    | (go_at_call 55; (refine hM.mono ?_; clear hM; rintro e w1 ⟨rfl, hg1⟩; have a0 := hg1.cell hB0 (by simp); have a1 := hg1.cell hB1 (by simp); have a2 := hg1.cell hB2 (by simp); have a3 := hg1.cell hB3 (by simp); have a4 := hg1.cell hB4 (by simp); have af := fun i (hi : i < 5) => hg1.frozen (a := ⟨w.heap.size, i, none⟩) hBl (hBf i hi) (by simp)))
    | fail)
  have hS := (((((GrowBut.setCell w1 ⟨w.heap.size, 0, none⟩ (.int .i64 0)).trans (GrowBut.setCell _ ⟨w.heap.size, 1, none⟩ (.int .i64 0))).trans (GrowBut.setCell _ ⟨w.heap.size, 2, none⟩ (.bool false))).trans (GrowBut.setCell _ ⟨w.heap.size, 3, none⟩ (.slice none 0 0))).trans (GrowBut.setCell _ ⟨w.heap.size, 4, none⟩ (.slice none 0 0)))
  refine bodyPost_ret_by (v := .tuple #[.agg #[.int .i64 0, .int .i64 0, .bool false, .slice none 0 0, .slice none 0 0], .slice none 0 0, .int .i64 er]) (by clear hS; simp only [results, Try.f39]; go_simp) rfl ?_
  exact ⟨rfl, (hg.trans hg1).from hS (fun x hx => .inr (by simp at hx; omega))⟩

set_option maxRecDepth 100000 in
set_option maxHeartbeats 8000000 in
theorem take_give {w : World} {ow : Nat → Int} {P MB b LB EB N : Nat} {g : Nat → Int} {L : List Int} {deals : Int → Option PactR} {events : Int → List Int} (h : PactsAt w ow P MB b LB EB N g L deals events) (m part : Int) (hm : (Lit.int .u64 m).wf = true) (hp : (Lit.int .i64 part).wf = true) (r : PactR) (hd : deals m = some r) (ho : r.offered = true) (hrv : recvB r.d.recvs part = true) (hnt : part ∉ r.takers) (hk : r.d.kind = 3) (hN : N ≤ 100000) (hl : (events m).length ≤ 10000) (hl7 : r.d.recvs.length ≤ 100000) (hl8 : r.d.spans.length ≤ 100000) (hl9 : r.frames.length ≤ 100000) :
    Calls Try.prog 37 #[.pointer (some ⟨P, 0, none⟩), .int .u64 m, .int .i64 part] w fun e w' => ∃ v7 v8 v9, e = .returned (.tuple #[.agg #[.int .i64 r.d.kind, .int .i64 r.d.sender, .bool r.d.zero, v7, v8], v9, .int .i64 (permF r.d.recvs part), .int .i64 0]) ∧ ∃ ow', (∀ x, x < w.heap.size → ow' x = ow x) ∧ RowOf w' ow' (-2) 52 2 v7 r.d.recvs.length (encPr r.d.recvs) ∧ RowOf w' ow' (-2) 55 2 v8 r.d.spans.length (encPr r.d.spans) ∧ RowOf w' ow' (-2) 3 1 v9 r.frames.length (r.frames.map (Value.int .i64)) ∧ PactsAt w' ow' P MB b LB EB (N + 1) g (L.erase m) (noDeal deals m) (noteE events m 6) ∧ ∃ l, GrowBut w w' l ∧ ∀ x ∈ l, x < w.heap.size → ow x = -1 ∨ ow x = -m - 10 := by
  have hm0 := h.pos m (.inl (by rw [hd]; exact fun e => by cases e))
  have hg1 := GrowBut.alloc w (.cells #[.int .i64 0, .int .i64 0, .bool false, .slice none 0 0, .slice none 0 0] 58) []
  have h1 := h.step (ow' := owN ow w (-2)) hg1 (fun x hx => by cases hx) owN_old
  have hM := may_take h1 m part hm hp r hd ho hl7
  obtain ⟨X, hX, hlk, _⟩ := of_some h1 m hm true r hd ho
  have hp1 := h1.p1
  have hBo : owN ow w (-2) w.heap.size = -2 := owN_new (Nat.le_refl _)
  have hsz1 : (w.alloc (.cells #[.int .i64 0, .int .i64 0, .bool false, .slice none 0 0, .slice none 0 0] 58)).heap.size = w.heap.size + 1 := by go_simp
  have hBl : w.heap.size < (w.alloc (.cells #[.int .i64 0, .int .i64 0, .bool false, .slice none 0 0, .slice none 0 0] 58)).heap.size := by omega
  have z0 : (w.alloc (.cells #[.int .i64 0, .int .i64 0, .bool false, .slice none 0 0, .slice none 0 0] 58)).cell? ⟨w.heap.size, 0, none⟩ = some (.int .i64 0) := by go_simp
  have z1 : (w.alloc (.cells #[.int .i64 0, .int .i64 0, .bool false, .slice none 0 0, .slice none 0 0] 58)).cell? ⟨w.heap.size, 1, none⟩ = some (.int .i64 0) := by go_simp
  have z2 : (w.alloc (.cells #[.int .i64 0, .int .i64 0, .bool false, .slice none 0 0, .slice none 0 0] 58)).cell? ⟨w.heap.size, 2, none⟩ = some (.bool false) := by go_simp
  have z3 : (w.alloc (.cells #[.int .i64 0, .int .i64 0, .bool false, .slice none 0 0, .slice none 0 0] 58)).cell? ⟨w.heap.size, 3, none⟩ = some (.slice none 0 0) := by go_simp
  have z4 : (w.alloc (.cells #[.int .i64 0, .int .i64 0, .bool false, .slice none 0 0, .slice none 0 0] 58)).cell? ⟨w.heap.size, 4, none⟩ = some (.slice none 0 0) := by go_simp
  have zf : ∀ i, i < 5 → (w.alloc (.cells #[.int .i64 0, .int .i64 0, .bool false, .slice none 0 0, .slice none 0 0] 58)).frozen? ⟨w.heap.size, i, none⟩ = false := fun i hi => by go_simp
  rw [show mayR r part 3 = 0 by simp [mayR, hrv, hnt]] at hM
  clear hrv hnt
  go_enter Try.func37, Try.ntmps37
  go_upto_region 10 with (first
    | (go_at_call 55; (refine hM.mono ?_; clear hM; rintro e wm ⟨rfl, hgm⟩; have y0 := hgm.cell z0 (by simp); have y1 := hgm.cell z1 (by simp); have y2 := hgm.cell z2 (by simp); have y3 := hgm.cell z3 (by simp); have y4 := hgm.cell z4 (by simp); have yf := fun i (hi : i < 5) => hgm.frozen (a := ⟨w.heap.size, i, none⟩) hBl (zf i hi) (by simp); have hm1 := h1.step (ow' := owN ow w (-2)) hgm (fun x hx => by cases hx) (fun _ _ => rfl); have hXm := hX.step (ow' := owN ow w (-2)) hgm (fun x hx => by cases hx) (fun _ _ => rfl); have hp1m := hgm.cell hp1 (by simp); have hlkm := of_same h1 hm1 hgm (by simp) hm hlk; have hsm := hgm.size; have hT := told_calls hXm hl7 hl8 hl9; rw [hk] at hT; clear z0 z1 z2 z3 z4 zf hlk hX hp1))
    | (go_at_call 79; (refine hT.mono ?_; clear hT; rintro e w2 ⟨v7, v8, v9, rfl, hr7, hr8, hr9, hg2⟩; obtain ⟨s7, p7, rfl⟩ := row_form hr7; obtain ⟨s8, p8, rfl⟩ := row_form hr8; obtain ⟨s9, p9, rfl⟩ := row_form hr9; have a0 := hg2.cell y0 (by simp); have a1 := hg2.cell y1 (by simp); have a2 := hg2.cell y2 (by simp); have a3 := hg2.cell y3 (by simp); have a4 := hg2.cell y4 (by simp); have af := fun i (hi : i < 5) => hg2.frozen (a := ⟨w.heap.size, i, none⟩) (by simp only; omega) (yf i hi) (by simp); have hs2 := hg2.size; have hS := (((((GrowBut.setCell w2 ⟨w.heap.size, 0, none⟩ (.int .i64 3)).trans (GrowBut.setCell _ ⟨w.heap.size, 1, none⟩ (.int .i64 r.d.sender))).trans (GrowBut.setCell _ ⟨w.heap.size, 2, none⟩ (.bool r.d.zero))).trans (GrowBut.setCell _ ⟨w.heap.size, 3, none⟩ (.slice s7 r.d.recvs.length p7))).trans (GrowBut.setCell _ ⟨w.heap.size, 4, none⟩ (.slice s8 r.d.spans.length p8))); have hSz := hS.size; have h3 := hm1.step (ow' := owN ow w (-2)) ((hg2.mono (by simp)).trans hS) (fun x hx _ => by simp at hx; rw [hx]; exact hBo) (fun _ _ => rfl); have hX3 := hXm.step (ow' := owN ow w (-2)) ((hg2.mono (by simp)).trans hS) (fun x hx _ => by simp at hx; rw [hx, hBo]; omega) (fun _ _ => rfl); have r7 : RowOf _ (owN ow w (-2)) (-2) 52 2 (.slice s7 r.d.recvs.length p7) r.d.recvs.length (encPr r.d.recvs) := ⟨row_low (hS.row hr7 (fun j hj hm => by have := (hr7.lt j hj).1; simp at hm; omega)) (Nat.zero_le _), fun j hj => owN_new (by have := (hr7.lt j hj).1; omega)⟩; have r8 : RowOf _ (owN ow w (-2)) (-2) 55 2 (.slice s8 r.d.spans.length p8) r.d.spans.length (encPr r.d.spans) := ⟨row_low (hS.row hr8 (fun j hj hm => by have := (hr8.lt j hj).1; simp at hm; omega)) (Nat.zero_le _), fun j hj => owN_new (by have := (hr8.lt j hj).1; omega)⟩; have r9 : RowOf _ (owN ow w (-2)) (-2) 3 1 (.slice s9 r.frames.length p9) r.frames.length (r.frames.map (Value.int .i64)) := ⟨row_low (hS.row hr9 (fun j hj hm => by have := (hr9.lt j hj).1; simp at hm; omega)) (Nat.zero_le _), fun j hj => owN_new (by have := (hr9.lt j hj).1; omega)⟩; have hE := ends_calls h3 m 6 hm hm0 hN hl))
    | (go_at_call 80; (refine hE.mono ?_; clear hE; rintro e w4 ⟨rfl, ow4, ho4, hP4, l4, hg4, hl4⟩; have hsz4 := hg4.size; have hB4 : w.heap.size ∉ l4 := (fun hx => by have h5 := hl4 _ hx (by omega); rw [hBo] at h5; omega); have e0 := hg4.cell (a := ⟨w.heap.size, 0, none⟩) (v := .int .i64 3) (by go_simp) hB4; have e1 := hg4.cell (a := ⟨w.heap.size, 1, none⟩) (v := .int .i64 r.d.sender) (by go_simp) hB4; have e2 := hg4.cell (a := ⟨w.heap.size, 2, none⟩) (v := .bool r.d.zero) (by go_simp) hB4; have e3 := hg4.cell (a := ⟨w.heap.size, 3, none⟩) (v := .slice s7 r.d.recvs.length p7) (by go_simp) hB4; have e4 := hg4.cell (a := ⟨w.heap.size, 4, none⟩) (v := .slice s8 r.d.spans.length p8) (by go_simp) hB4; have ef := fun i (hi : i < 5) => hg4.frozen (a := ⟨w.heap.size, i, none⟩) (by have := hS.size; simp only at this ⊢; omega) (by go_simp) hB4))
    | fail)
  have d4 := GrowBut.drew w4 []
  have hdz : w4.drew.heap.size = w4.heap.size := rfl
  have hn4 : ∀ x ∈ l4, x < _ → owN ow w (-2) x ≠ -2 := fun x hx hxs => by have := hl4 x hx hxs; omega
  have hq4 : ∀ x ∈ l4, x < _ → owN ow w (-2) x ≠ m := fun x hx hxs => by have := hl4 x hx hxs; omega
  have hX4 := (hX3.step hg4 hq4 ho4).step (ow' := ow4) d4 (fun x hx => by cases hx) (fun _ _ => rfl)
  have t7 := r7.step hg4 hn4 ho4
  have t8 := r8.step hg4 hn4 ho4
  have t9 := r9.step hg4 hn4 ho4
  have hPm := perm_calls hX4 part hl7
  have j0 := d4.cell e0 (by simp)
  have j1 := d4.cell e1 (by simp)
  have j2 := d4.cell e2 (by simp)
  have j3 := d4.cell e3 (by simp)
  have j4 := d4.cell e4 (by simp)
  have jf := fun i (hi : i < 5) => d4.frozen (a := ⟨w.heap.size, i, none⟩) (by simp only; omega) (ef i hi) (by simp)
  clear e0 e1 e2 e3 e4 ef a0 a1 a2 a3 a4 af y0 y1 y2 y3 y4 yf
  go_region_with (first
    | (go_at_call 81; (refine hPm.mono ?_; clear hPm; rintro e w5 ⟨rfl, hg5⟩; have q0 := hg5.cell j0 (by simp); have q1 := hg5.cell j1 (by simp); have q2 := hg5.cell j2 (by simp); have q3 := hg5.cell j3 (by simp); have q4 := hg5.cell j4 (by simp); have qf := fun i (hi : i < 5) => hg5.frozen (a := ⟨w.heap.size, i, none⟩) (by simp only; omega) (jf i hi) (by simp)))
    | fail)
  all_goals go_wp2_with fail
  all_goals
    have hS5 := (((((GrowBut.setCell w5 ⟨w.heap.size, 0, none⟩ (.int .i64 3)).trans (GrowBut.setCell _ ⟨w.heap.size, 1, none⟩ (.int .i64 r.d.sender))).trans (GrowBut.setCell _ ⟨w.heap.size, 2, none⟩ (.bool r.d.zero))).trans (GrowBut.setCell _ ⟨w.heap.size, 3, none⟩ (.slice s7 r.d.recvs.length p7))).trans (GrowBut.setCell _ ⟨w.heap.size, 4, none⟩ (.slice s8 r.d.spans.length p8)))
    have hd5 := d4.trans hg5
    have hP5 := (hP4.step (ow' := ow4) hd5 (fun x hx => by cases hx) (fun _ _ => rfl)).step (ow' := ow4) hS5 (fun x hx _ => by simp at hx; rw [hx, ho4 _ (by omega)]; exact hBo) (fun _ _ => rfl)
    have hG : GrowBut w _ (w.heap.size :: l4) := ((((((hg1.trans hgm).trans hg2).mono (fun x hx => nomatch hx)).trans (hS.mono (by simp))).trans (hg4.mono (fun x hx => List.mem_cons_of_mem _ hx))).trans (hd5.mono (fun x hx => nomatch hx))).trans (hS5.mono (by simp))
    have u7 := hS5.row (hd5.row t7.1 (by simp)) (fun j hj hm => by have := (hr7.lt j hj).1; simp at hm; omega)
    have u8 := hS5.row (hd5.row t8.1 (by simp)) (fun j hj hm => by have := (hr8.lt j hj).1; simp at hm; omega)
    have u9 := hS5.row (hd5.row t9.1 (by simp)) (fun j hj hm => by have := (hr9.lt j hj).1; simp at hm; omega)
    refine bodyPost_ret_by (v := .tuple #[.agg #[.int .i64 3, .int .i64 r.d.sender, .bool r.d.zero, .slice s7 r.d.recvs.length p7, .slice s8 r.d.spans.length p8], .slice s9 r.frames.length p9, .int .i64 (permF r.d.recvs part), .int .i64 0]) (by clear hG hP5 u7 u8 u9 t7 t8 t9 r7 r8 r9 hS5 hS h3 h1 h hP4 hg4 hg2 hg1 hr7 hr8 hr9 hX4 hX3 hXm hm1 hn4 hq4; simp only [results, Try.f37]; go_simp) rfl ?_
    refine ⟨_, _, _, by rw [hk], ow4, fun x hx => ?_, ⟨u7, t7.2⟩, ⟨u8, t8.2⟩, ⟨u9, t9.2⟩, hP5, _, hG, fun x hx hxs => ?_⟩
    · rw [ho4 x (by omega), owN_old x hx]
    · rcases List.mem_cons.1 hx with rfl | hx
      · omega
      · have := hl4 x hx (by omega)
        rw [owN_old x hxs] at this
        exact this

set_option maxRecDepth 100000 in
set_option maxHeartbeats 8000000 in
theorem take_some {w : World} {ow : Nat → Int} {P MB b LB EB N : Nat} {g : Nat → Int} {L : List Int} {deals : Int → Option PactR} {events : Int → List Int} (h : PactsAt w ow P MB b LB EB N g L deals events) (m part : Int) (hm : (Lit.int .u64 m).wf = true) (hp : (Lit.int .i64 part).wf = true) (r : PactR) (hd : deals m = some r) (ho : r.offered = true) (hrv : recvB r.d.recvs part = true) (hnt : part ∉ r.takers) (hk : r.d.kind ≠ 3) (hN : N ≤ 90000) (hl : (events m).length ≤ 10000) (hl7 : r.d.recvs.length ≤ 100000) (hl8 : r.d.spans.length ≤ 100000) (hl9 : r.frames.length ≤ 100000) :
    Calls Try.prog 37 #[.pointer (some ⟨P, 0, none⟩), .int .u64 m, .int .i64 part] w fun e w' => ∃ v7 v8 v9, e = .returned (.tuple #[.agg #[.int .i64 r.d.kind, .int .i64 r.d.sender, .bool r.d.zero, v7, v8], v9, .int .i64 (permF r.d.recvs part), .int .i64 0]) ∧ ∃ ow', (∀ x, x < w.heap.size → ow' x = ow x) ∧ RowOf w' ow' (-2) 52 2 v7 r.d.recvs.length (encPr r.d.recvs) ∧ RowOf w' ow' (-2) 55 2 v8 r.d.spans.length (encPr r.d.spans) ∧ RowOf w' ow' (-2) 3 1 v9 r.frames.length (r.frames.map (Value.int .i64)) ∧ PactsAt w' ow' P MB b LB EB (N + 2) g (L) (setD deals m { r with takers := r.takers ++ [part] }) (noteE events m 3) ∧ ∃ l, GrowBut w w' l ∧ ∀ x ∈ l, x < w.heap.size → ow x = -1 ∨ ow x = m ∨ ow x = -m - 10 := by
  have hLl : LB < w.heap.size := (by obtain ⟨fl, htl, _⟩ := h.tl; exact htl.blt)
  have hm0 := h.pos m (.inl (by rw [hd]; exact fun e => by cases e))
  have hg1 := GrowBut.alloc w (.cells #[.int .i64 0, .int .i64 0, .bool false, .slice none 0 0, .slice none 0 0] 58) []
  have h1 := h.step (ow' := owN ow w (-2)) hg1 (fun x hx => by cases hx) owN_old
  have hM := may_take h1 m part hm hp r hd ho hl7
  obtain ⟨X, hX, hlk, _⟩ := of_some h1 m hm true r hd ho
  have hp1 := h1.p1
  have hBo : owN ow w (-2) w.heap.size = -2 := owN_new (Nat.le_refl _)
  have hsz1 : (w.alloc (.cells #[.int .i64 0, .int .i64 0, .bool false, .slice none 0 0, .slice none 0 0] 58)).heap.size = w.heap.size + 1 := by go_simp
  have hBl : w.heap.size < (w.alloc (.cells #[.int .i64 0, .int .i64 0, .bool false, .slice none 0 0, .slice none 0 0] 58)).heap.size := by omega
  have z0 : (w.alloc (.cells #[.int .i64 0, .int .i64 0, .bool false, .slice none 0 0, .slice none 0 0] 58)).cell? ⟨w.heap.size, 0, none⟩ = some (.int .i64 0) := by go_simp
  have z1 : (w.alloc (.cells #[.int .i64 0, .int .i64 0, .bool false, .slice none 0 0, .slice none 0 0] 58)).cell? ⟨w.heap.size, 1, none⟩ = some (.int .i64 0) := by go_simp
  have z2 : (w.alloc (.cells #[.int .i64 0, .int .i64 0, .bool false, .slice none 0 0, .slice none 0 0] 58)).cell? ⟨w.heap.size, 2, none⟩ = some (.bool false) := by go_simp
  have z3 : (w.alloc (.cells #[.int .i64 0, .int .i64 0, .bool false, .slice none 0 0, .slice none 0 0] 58)).cell? ⟨w.heap.size, 3, none⟩ = some (.slice none 0 0) := by go_simp
  have z4 : (w.alloc (.cells #[.int .i64 0, .int .i64 0, .bool false, .slice none 0 0, .slice none 0 0] 58)).cell? ⟨w.heap.size, 4, none⟩ = some (.slice none 0 0) := by go_simp
  have zf : ∀ i, i < 5 → (w.alloc (.cells #[.int .i64 0, .int .i64 0, .bool false, .slice none 0 0, .slice none 0 0] 58)).frozen? ⟨w.heap.size, i, none⟩ = false := fun i hi => by go_simp
  rw [show mayR r part 3 = 0 by simp [mayR, hrv, hnt]] at hM
  clear hrv
  go_enter Try.func37, Try.ntmps37
  go_upto_region 6 with (first
    | (go_at_call 55; (refine hM.mono ?_; clear hM; rintro e wm ⟨rfl, hgm⟩; have y0 := hgm.cell z0 (by simp); have y1 := hgm.cell z1 (by simp); have y2 := hgm.cell z2 (by simp); have y3 := hgm.cell z3 (by simp); have y4 := hgm.cell z4 (by simp); have yf := fun i (hi : i < 5) => hgm.frozen (a := ⟨w.heap.size, i, none⟩) hBl (zf i hi) (by simp); have hm1 := h1.step (ow' := owN ow w (-2)) hgm (fun x hx => by cases hx) (fun _ _ => rfl); have hXm := hX.step (ow' := owN ow w (-2)) hgm (fun x hx => by cases hx) (fun _ _ => rfl); have hp1m := hgm.cell hp1 (by simp); have hlkm := of_same h1 hm1 hgm (by simp) hm hlk; have hsm := hgm.size; have hT := told_calls hXm hl7 hl8 hl9; clear z0 z1 z2 z3 z4 zf hlk hX hp1))
    | (go_at_call 79; (refine hT.mono ?_; clear hT; rintro e w2 ⟨v7, v8, v9, rfl, hr7, hr8, hr9, hg2⟩; obtain ⟨s7, p7, rfl⟩ := row_form hr7; obtain ⟨s8, p8, rfl⟩ := row_form hr8; obtain ⟨s9, p9, rfl⟩ := row_form hr9; have a0 := hg2.cell y0 (by simp); have a1 := hg2.cell y1 (by simp); have a2 := hg2.cell y2 (by simp); have a3 := hg2.cell y3 (by simp); have a4 := hg2.cell y4 (by simp); have af := fun i (hi : i < 5) => hg2.frozen (a := ⟨w.heap.size, i, none⟩) (by simp only; omega) (yf i hi) (by simp); have hs2 := hg2.size; have hS := (((((GrowBut.setCell w2 ⟨w.heap.size, 0, none⟩ (.int .i64 r.d.kind)).trans (GrowBut.setCell _ ⟨w.heap.size, 1, none⟩ (.int .i64 r.d.sender))).trans (GrowBut.setCell _ ⟨w.heap.size, 2, none⟩ (.bool r.d.zero))).trans (GrowBut.setCell _ ⟨w.heap.size, 3, none⟩ (.slice s7 r.d.recvs.length p7))).trans (GrowBut.setCell _ ⟨w.heap.size, 4, none⟩ (.slice s8 r.d.spans.length p8))); have hSz := hS.size; have h3 := hm1.step (ow' := owN ow w (-2)) ((hg2.mono (by simp)).trans hS) (fun x hx _ => by simp at hx; rw [hx]; exact hBo) (fun _ _ => rfl); have hX3 := hXm.step (ow' := owN ow w (-2)) ((hg2.mono (by simp)).trans hS) (fun x hx _ => by simp at hx; rw [hx, hBo]; omega) (fun _ _ => rfl); have r7 : RowOf _ (owN ow w (-2)) (-2) 52 2 (.slice s7 r.d.recvs.length p7) r.d.recvs.length (encPr r.d.recvs) := ⟨row_low (hS.row hr7 (fun j hj hm => by have := (hr7.lt j hj).1; simp at hm; omega)) (Nat.zero_le _), fun j hj => owN_new (by have := (hr7.lt j hj).1; omega)⟩; have r8 : RowOf _ (owN ow w (-2)) (-2) 55 2 (.slice s8 r.d.spans.length p8) r.d.spans.length (encPr r.d.spans) := ⟨row_low (hS.row hr8 (fun j hj hm => by have := (hr8.lt j hj).1; simp at hm; omega)) (Nat.zero_le _), fun j hj => owN_new (by have := (hr8.lt j hj).1; omega)⟩; have r9 : RowOf _ (owN ow w (-2)) (-2) 3 1 (.slice s9 r.frames.length p9) r.frames.length (r.frames.map (Value.int .i64)) := ⟨row_low (hS.row hr9 (fun j hj hm => by have := (hr9.lt j hj).1; simp at hm; omega)) (Nat.zero_le _), fun j hj => owN_new (by have := (hr9.lt j hj).1; omega)⟩; have hlk3 := of_same hm1 h3 ((hg2.mono (by simp)).trans hS) (by simp; omega) hm hlkm; have hXl := cell_lt hXm.c0; simp only at hXl; have hXB : X ≠ w.heap.size := (fun e => by have h6 := hXm.own; rw [e, hBo] at h6; omega); obtain ⟨T, cT2, hTo, hTt2⟩ := (hXm.step (ow' := owN ow w (-2)) hg2 (fun x hx => by cases hx) (fun _ _ => rfl)).c10; have hTB : w.heap.size ∉ [T] := (fun hx => by simp at hx; rw [← hx, hBo] at hTo; omega); have hTt := hTt2.kept hS (by simp; exact fun e => hTB (by simp [e])); have hTl := hTt.blt))
    | fail)
  have b0 : (((((w2.setCell ⟨w.heap.size, 0, none⟩ (.int .i64 r.d.kind)).setCell ⟨w.heap.size, 1, none⟩ (.int .i64 r.d.sender)).setCell ⟨w.heap.size, 2, none⟩ (.bool r.d.zero)).setCell ⟨w.heap.size, 3, none⟩ (.slice s7 r.d.recvs.length p7)).setCell ⟨w.heap.size, 4, none⟩ (.slice s8 r.d.spans.length p8)).cell? ⟨w.heap.size, 0, none⟩ = some (.int .i64 r.d.kind) := by go_simp
  have b1 : (((((w2.setCell ⟨w.heap.size, 0, none⟩ (.int .i64 r.d.kind)).setCell ⟨w.heap.size, 1, none⟩ (.int .i64 r.d.sender)).setCell ⟨w.heap.size, 2, none⟩ (.bool r.d.zero)).setCell ⟨w.heap.size, 3, none⟩ (.slice s7 r.d.recvs.length p7)).setCell ⟨w.heap.size, 4, none⟩ (.slice s8 r.d.spans.length p8)).cell? ⟨w.heap.size, 1, none⟩ = some (.int .i64 r.d.sender) := by go_simp
  have b2 : (((((w2.setCell ⟨w.heap.size, 0, none⟩ (.int .i64 r.d.kind)).setCell ⟨w.heap.size, 1, none⟩ (.int .i64 r.d.sender)).setCell ⟨w.heap.size, 2, none⟩ (.bool r.d.zero)).setCell ⟨w.heap.size, 3, none⟩ (.slice s7 r.d.recvs.length p7)).setCell ⟨w.heap.size, 4, none⟩ (.slice s8 r.d.spans.length p8)).cell? ⟨w.heap.size, 2, none⟩ = some (.bool r.d.zero) := by go_simp
  have b3 : (((((w2.setCell ⟨w.heap.size, 0, none⟩ (.int .i64 r.d.kind)).setCell ⟨w.heap.size, 1, none⟩ (.int .i64 r.d.sender)).setCell ⟨w.heap.size, 2, none⟩ (.bool r.d.zero)).setCell ⟨w.heap.size, 3, none⟩ (.slice s7 r.d.recvs.length p7)).setCell ⟨w.heap.size, 4, none⟩ (.slice s8 r.d.spans.length p8)).cell? ⟨w.heap.size, 3, none⟩ = some (.slice s7 r.d.recvs.length p7) := by go_simp
  have b4 : (((((w2.setCell ⟨w.heap.size, 0, none⟩ (.int .i64 r.d.kind)).setCell ⟨w.heap.size, 1, none⟩ (.int .i64 r.d.sender)).setCell ⟨w.heap.size, 2, none⟩ (.bool r.d.zero)).setCell ⟨w.heap.size, 3, none⟩ (.slice s7 r.d.recvs.length p7)).setCell ⟨w.heap.size, 4, none⟩ (.slice s8 r.d.spans.length p8)).cell? ⟨w.heap.size, 4, none⟩ = some (.slice s8 r.d.spans.length p8) := by go_simp
  have bf : ∀ i, i < 5 → (((((w2.setCell ⟨w.heap.size, 0, none⟩ (.int .i64 r.d.kind)).setCell ⟨w.heap.size, 1, none⟩ (.int .i64 r.d.sender)).setCell ⟨w.heap.size, 2, none⟩ (.bool r.d.zero)).setCell ⟨w.heap.size, 3, none⟩ (.slice s7 r.d.recvs.length p7)).setCell ⟨w.heap.size, 4, none⟩ (.slice s8 r.d.spans.length p8)).frozen? ⟨w.heap.size, i, none⟩ = false := fun i hi => by go_simp
  have cT := hS.cell cT2 (by simpa using hXB)
  have hsz3 : w.heap.size < (((((w2.setCell ⟨w.heap.size, 0, none⟩ (.int .i64 r.d.kind)).setCell ⟨w.heap.size, 1, none⟩ (.int .i64 r.d.sender)).setCell ⟨w.heap.size, 2, none⟩ (.bool r.d.zero)).setCell ⟨w.heap.size, 3, none⟩ (.slice s7 r.d.recvs.length p7)).setCell ⟨w.heap.size, 4, none⟩ (.slice s8 r.d.spans.length p8)).heap.size := by omega
  clear a0 a1 a2 a3 a4 af y0 y1 y2 y3 y4 yf
  generalize (((((w2.setCell ⟨w.heap.size, 0, none⟩ (.int .i64 r.d.kind)).setCell ⟨w.heap.size, 1, none⟩ (.int .i64 r.d.sender)).setCell ⟨w.heap.size, 2, none⟩ (.bool r.d.zero)).setCell ⟨w.heap.size, 3, none⟩ (.slice s7 r.d.recvs.length p7)).setCell ⟨w.heap.size, 4, none⟩ (.slice s8 r.d.spans.length p8)) = w3 at hS h3 hX3 r7 r8 r9 hTt hlk3 b0 b1 b2 b3 b4 bf cT hSz hsz3 hTl ⊢
  go_upto_region 10 with (first
    | (at_mapUpdate; (refine wpList_putT rfl _ _ _ 103 rfl hTt keyW Try.underlying3 Try.underlying103 (by omega) rfl part (.bool true) rfl rfl hp ?_; intro w4 ht4 hg4; rw [seenS_snoc] at ht4; have hsz4 := hg4.size; have hX4 := hX3.tabbed cT hg4 ht4 (by rw [List.nodup_append]; exact ⟨hX3.nd, by simp, fun a ha b hb => by simp at hb; subst hb; exact fun e => hnt (e ▸ ha)⟩); have h4 := (h3.moreN (N' := N + 1) (by omega)).change hm hd hlk3 hg4 (fun x hx _ => by simp at hx; rw [hx]; exact hTo) hX4 (fun _ _ => rfl); have e0 := hg4.cell b0 hTB; have e1 := hg4.cell b1 hTB; have e2 := hg4.cell b2 hTB; have e3 := hg4.cell b3 hTB; have e4 := hg4.cell b4 hTB; have ef := fun i (hi : i < 5) => hg4.frozen (a := ⟨w.heap.size, i, none⟩) (by simp only; omega) (bf i hi) hTB; have hNt := note_calls h4 m 3 hm hm0 (by omega) hl))
    | (go_at_call 72; (refine hNt.mono ?_; clear hNt; rintro e w5 ⟨rfl, hP5, l5, hg5, hl5⟩; have hsz5 := hg5.size; have hl5' : ∀ x ∈ l5, owN ow w (-2) x = -m - 10 ∨ owN ow w (-2) x = -1 := (fun x hx => by rcases hl5 x hx with h6 | h6; exact .inl h6; rw [h6]; exact .inr h3.own.2.2.2.2); have hB5 : w.heap.size ∉ l5 := (fun hx => by have h6 := hl5' _ hx; rw [hBo] at h6; omega); have i0 := hg5.cell e0 hB5; have i1 := hg5.cell e1 hB5; have i2 := hg5.cell e2 hB5; have i3 := hg5.cell e3 hB5; have i4 := hg5.cell e4 hB5; have iF := fun i (hi : i < 5) => hg5.frozen (a := ⟨w.heap.size, i, none⟩) (by simp only; omega) (ef i hi) hB5))
    | fail)
  have d5 := GrowBut.drew w5 []
  have hdz : w5.drew.heap.size = w5.heap.size := rfl
  have hX5 := (hX4.step hg5 (fun x hx _ => by have := hl5' x hx; omega) (owN_old (ow := owN ow w (-2)) (m := -m - 10))).step (ow' := owN (owN ow w (-2)) w4 (-m - 10)) d5 (fun x hx => by cases hx) (fun _ _ => rfl)
  have hTn : ∀ x ∈ [T], x < w3.heap.size → owN ow w (-2) x ≠ -2 := fun x hx _ => by simp at hx; rw [hx, hTo]; omega
  have t7 := (r7.step (ow' := owN ow w (-2)) hg4 hTn (fun _ _ => rfl)).step hg5 (fun x hx _ => by have := hl5' x hx; omega) (owN_old (m := -m - 10))
  have t8 := (r8.step (ow' := owN ow w (-2)) hg4 hTn (fun _ _ => rfl)).step hg5 (fun x hx _ => by have := hl5' x hx; omega) (owN_old (m := -m - 10))
  have t9 := (r9.step (ow' := owN ow w (-2)) hg4 hTn (fun _ _ => rfl)).step hg5 (fun x hx _ => by have := hl5' x hx; omega) (owN_old (m := -m - 10))
  have hPm := perm_calls hX5 part hl7
  have j0 := d5.cell i0 (by simp)
  have j1 := d5.cell i1 (by simp)
  have j2 := d5.cell i2 (by simp)
  have j3 := d5.cell i3 (by simp)
  have j4 := d5.cell i4 (by simp)
  have jf := fun i (hi : i < 5) => d5.frozen (a := ⟨w.heap.size, i, none⟩) (by simp only; omega) (iF i hi) (by simp)
  clear e0 e1 e2 e3 e4 ef b0 b1 b2 b3 b4 bf i0 i1 i2 i3 i4 iF
  go_region_with (first
    | (go_at_call 81; (refine hPm.mono ?_; clear hPm; rintro e w6 ⟨rfl, hg6⟩; have q0 := hg6.cell j0 (by simp); have q1 := hg6.cell j1 (by simp); have q2 := hg6.cell j2 (by simp); have q3 := hg6.cell j3 (by simp); have q4 := hg6.cell j4 (by simp); have qf := fun i (hi : i < 5) => hg6.frozen (a := ⟨w.heap.size, i, none⟩) (by simp only; omega) (jf i hi) (by simp)))
    | fail)
  all_goals go_wp2_with fail
  all_goals
    have hS6 := (((((GrowBut.setCell w6 ⟨w.heap.size, 0, none⟩ (.int .i64 r.d.kind)).trans (GrowBut.setCell _ ⟨w.heap.size, 1, none⟩ (.int .i64 r.d.sender))).trans (GrowBut.setCell _ ⟨w.heap.size, 2, none⟩ (.bool r.d.zero))).trans (GrowBut.setCell _ ⟨w.heap.size, 3, none⟩ (.slice s7 r.d.recvs.length p7))).trans (GrowBut.setCell _ ⟨w.heap.size, 4, none⟩ (.slice s8 r.d.spans.length p8)))
    have hd6 := d5.trans hg6
    have hP6 := (hP5.step (ow' := owN (owN ow w (-2)) w4 (-m - 10)) hd6 (fun x hx => by cases hx) (fun _ _ => rfl)).step (ow' := owN (owN ow w (-2)) w4 (-m - 10)) hS6 (fun x hx _ => by simp at hx; rw [hx, owN_old _ (by omega)]; exact hBo) (fun _ _ => rfl)
    have hG : GrowBut w _ (w.heap.size :: T :: l5) := ((((((hg1.trans hgm).trans hg2).mono (fun x hx => nomatch hx)).trans (hS.mono (by simp))).trans (hg4.mono (by simp))).trans (hg5.mono (fun x hx => List.mem_cons_of_mem _ (List.mem_cons_of_mem _ hx)))).trans ((hd6.mono (fun x hx => nomatch hx)).trans (hS6.mono (by simp)))
    have u7 := hS6.row (hd6.row t7.1 (by simp)) (fun j hj hm => by have := (hr7.lt j hj).1; simp at hm; omega)
    have u8 := hS6.row (hd6.row t8.1 (by simp)) (fun j hj hm => by have := (hr8.lt j hj).1; simp at hm; omega)
    have u9 := hS6.row (hd6.row t9.1 (by simp)) (fun j hj hm => by have := (hr9.lt j hj).1; simp at hm; omega)
    refine bodyPost_ret_by (v := .tuple #[.agg #[.int .i64 r.d.kind, .int .i64 r.d.sender, .bool r.d.zero, .slice s7 r.d.recvs.length p7, .slice s8 r.d.spans.length p8], .slice s9 r.frames.length p9, .int .i64 (permF r.d.recvs part), .int .i64 0]) (by clear hG hP6 u7 u8 u9 t7 t8 t9 r7 r8 r9 hS6 hS h3 h1 h hP5 h4 hg4 hg5 hg2 hg1 hr7 hr8 hr9 hX5 hX4 hX3 hXm hm1; simp only [results, Try.f37]; go_simp) rfl ?_
    refine ⟨_, _, _, rfl, _, fun x hx => ?_, ⟨u7, t7.2⟩, ⟨u8, t8.2⟩, ⟨u9, t9.2⟩, hP6, _, hG, fun x hx hxs => ?_⟩
    · rw [owN_old x (by omega), owN_old x hx]
    · rcases List.mem_cons.1 hx with rfl | hx
      · omega
      · rcases List.mem_cons.1 hx with rfl | hx
        · rw [owN_old _ hxs] at hTo; exact .inr (.inl hTo)
        · have := hl5' x hx
          rw [owN_old x hxs] at this
          omega

end Go.Proofs.Ytcoedmiichppdaa


/-
  Package pact: Reclaim, Leave, with what they tell.
-/
namespace Go.Proofs.Ytcoedmiichppdaa
open Go Go.RowKit Go.Maps Go.Am
set_option linter.unusedVariables false
set_option linter.unusedSimpArgs false

set_option maxRecDepth 100000 in
set_option maxHeartbeats 8000000 in
theorem reclaim_ok {w : World} {ow : Nat → Int} {P MB b LB EB N : Nat} {g : Nat → Int} {L : List Int} {deals : Int → Option PactR} {events : Int → List Int} (h : PactsAt w ow P MB b LB EB N g L deals events) (m part : Int) (hm : (Lit.int .u64 m).wf = true) (r : PactR) (hd : deals m = some r) (ho : r.offered = true) (hs : r.sender = part) (ht : r.takers = []) (hN : N ≤ 90000) (hl : (events m).length ≤ 10000) (hl7 : r.d.recvs.length ≤ 100000) (hl8 : r.d.spans.length ≤ 100000) (hl9 : r.frames.length ≤ 100000) :
    Calls Try.prog 39 #[.pointer (some ⟨P, 0, none⟩), .int .u64 m, .int .i64 part] w fun e w' => ∃ v7 v8 v9, e = .returned (.tuple #[.agg #[.int .i64 r.d.kind, .int .i64 r.d.sender, .bool r.d.zero, v7, v8], v9, .int .i64 0]) ∧ ∃ ow', (∀ x, x < w.heap.size → ow' x = ow x) ∧ RowOf w' ow' (-2) 52 2 v7 r.d.recvs.length (encPr r.d.recvs) ∧ RowOf w' ow' (-2) 55 2 v8 r.d.spans.length (encPr r.d.spans) ∧ RowOf w' ow' (-2) 3 1 v9 r.frames.length (r.frames.map (Value.int .i64)) ∧ PactsAt w' ow' P MB b LB EB (N + 1) g (L.erase m) (noDeal deals m) (noteE events m 5) ∧ ∃ l, GrowBut w w' l ∧ ∀ x ∈ l, x < w.heap.size → ow x = -1 ∨ ow x = -m - 10 := by
  have hm0 := h.pos m (.inl (by rw [hd]; exact fun e => by cases e))
  have hg1 := GrowBut.alloc w (.cells #[.int .i64 0, .int .i64 0, .bool false, .slice none 0 0, .slice none 0 0] 58) []
  have h1 := h.step (ow' := owN ow w (-2)) hg1 (fun x hx => by cases hx) owN_old
  have hM := may_recl h1 m part hm r hd ho
  obtain ⟨X, hX, hlk, _⟩ := of_some h1 m hm true r hd ho
  have hp1 := h1.p1
  have hBo : owN ow w (-2) w.heap.size = -2 := owN_new (Nat.le_refl _)
  have hsz1 : (w.alloc (.cells #[.int .i64 0, .int .i64 0, .bool false, .slice none 0 0, .slice none 0 0] 58)).heap.size = w.heap.size + 1 := by go_simp
  have hBl : w.heap.size < (w.alloc (.cells #[.int .i64 0, .int .i64 0, .bool false, .slice none 0 0, .slice none 0 0] 58)).heap.size := by omega
  have z0 : (w.alloc (.cells #[.int .i64 0, .int .i64 0, .bool false, .slice none 0 0, .slice none 0 0] 58)).cell? ⟨w.heap.size, 0, none⟩ = some (.int .i64 0) := by go_simp
  have z1 : (w.alloc (.cells #[.int .i64 0, .int .i64 0, .bool false, .slice none 0 0, .slice none 0 0] 58)).cell? ⟨w.heap.size, 1, none⟩ = some (.int .i64 0) := by go_simp
  have z2 : (w.alloc (.cells #[.int .i64 0, .int .i64 0, .bool false, .slice none 0 0, .slice none 0 0] 58)).cell? ⟨w.heap.size, 2, none⟩ = some (.bool false) := by go_simp
  have z3 : (w.alloc (.cells #[.int .i64 0, .int .i64 0, .bool false, .slice none 0 0, .slice none 0 0] 58)).cell? ⟨w.heap.size, 3, none⟩ = some (.slice none 0 0) := by go_simp
  have z4 : (w.alloc (.cells #[.int .i64 0, .int .i64 0, .bool false, .slice none 0 0, .slice none 0 0] 58)).cell? ⟨w.heap.size, 4, none⟩ = some (.slice none 0 0) := by go_simp
  have zf : ∀ i, i < 5 → (w.alloc (.cells #[.int .i64 0, .int .i64 0, .bool false, .slice none 0 0, .slice none 0 0] 58)).frozen? ⟨w.heap.size, i, none⟩ = false := fun i hi => by go_simp
  rw [show mayR r part 5 = 0 by simp [mayR, hs, ht]] at hM
  clear hs ht
  go_enter Try.func39, Try.ntmps39
  go_wp2_with (first
    | (go_at_call 55; (refine hM.mono ?_; clear hM; rintro e wm ⟨rfl, hgm⟩; have y0 := hgm.cell z0 (by simp); have y1 := hgm.cell z1 (by simp); have y2 := hgm.cell z2 (by simp); have y3 := hgm.cell z3 (by simp); have y4 := hgm.cell z4 (by simp); have yf := fun i (hi : i < 5) => hgm.frozen (a := ⟨w.heap.size, i, none⟩) hBl (zf i hi) (by simp); have hm1 := h1.step (ow' := owN ow w (-2)) hgm (fun x hx => by cases hx) (fun _ _ => rfl); have hXm := hX.step (ow' := owN ow w (-2)) hgm (fun x hx => by cases hx) (fun _ _ => rfl); have hp1m := hgm.cell hp1 (by simp); have hlkm := of_same h1 hm1 hgm (by simp) hm hlk; have hsm := hgm.size; have hT := told_calls hXm hl7 hl8 hl9; clear z0 z1 z2 z3 z4 zf hlk hX hp1))
    | (go_at_call 79; (refine hT.mono ?_; clear hT; rintro e w2 ⟨v7, v8, v9, rfl, hr7, hr8, hr9, hg2⟩; obtain ⟨s7, p7, rfl⟩ := row_form hr7; obtain ⟨s8, p8, rfl⟩ := row_form hr8; obtain ⟨s9, p9, rfl⟩ := row_form hr9; have a0 := hg2.cell y0 (by simp); have a1 := hg2.cell y1 (by simp); have a2 := hg2.cell y2 (by simp); have a3 := hg2.cell y3 (by simp); have a4 := hg2.cell y4 (by simp); have af := fun i (hi : i < 5) => hg2.frozen (a := ⟨w.heap.size, i, none⟩) (by simp only; omega) (yf i hi) (by simp); have hs2 := hg2.size; have hS := (((((GrowBut.setCell w2 ⟨w.heap.size, 0, none⟩ (.int .i64 r.d.kind)).trans (GrowBut.setCell _ ⟨w.heap.size, 1, none⟩ (.int .i64 r.d.sender))).trans (GrowBut.setCell _ ⟨w.heap.size, 2, none⟩ (.bool r.d.zero))).trans (GrowBut.setCell _ ⟨w.heap.size, 3, none⟩ (.slice s7 r.d.recvs.length p7))).trans (GrowBut.setCell _ ⟨w.heap.size, 4, none⟩ (.slice s8 r.d.spans.length p8))); have hSz := hS.size; have h3 := hm1.step (ow' := owN ow w (-2)) ((hg2.mono (by simp)).trans hS) (fun x hx _ => by simp at hx; rw [hx]; exact hBo) (fun _ _ => rfl); have hX3 := hXm.step (ow' := owN ow w (-2)) ((hg2.mono (by simp)).trans hS) (fun x hx _ => by simp at hx; rw [hx, hBo]; omega) (fun _ _ => rfl); have r7 : RowOf _ (owN ow w (-2)) (-2) 52 2 (.slice s7 r.d.recvs.length p7) r.d.recvs.length (encPr r.d.recvs) := ⟨row_low (hS.row hr7 (fun j hj hm => by have := (hr7.lt j hj).1; simp at hm; omega)) (Nat.zero_le _), fun j hj => owN_new (by have := (hr7.lt j hj).1; omega)⟩; have r8 : RowOf _ (owN ow w (-2)) (-2) 55 2 (.slice s8 r.d.spans.length p8) r.d.spans.length (encPr r.d.spans) := ⟨row_low (hS.row hr8 (fun j hj hm => by have := (hr8.lt j hj).1; simp at hm; omega)) (Nat.zero_le _), fun j hj => owN_new (by have := (hr8.lt j hj).1; omega)⟩; have r9 : RowOf _ (owN ow w (-2)) (-2) 3 1 (.slice s9 r.frames.length p9) r.frames.length (r.frames.map (Value.int .i64)) := ⟨row_low (hS.row hr9 (fun j hj hm => by have := (hr9.lt j hj).1; simp at hm; omega)) (Nat.zero_le _), fun j hj => owN_new (by have := (hr9.lt j hj).1; omega)⟩; have hE := ends_calls h3 m 5 hm hm0 (by omega) hl))
    | (go_at_call 80; (refine hE.mono ?_; clear hE; rintro e w4 ⟨rfl, ow4, ho4, hP4, l4, hg4, hl4⟩; have hsz4 := hg4.size; have hB4 : w.heap.size ∉ l4 := (fun hx => by have h5 := hl4 _ hx (by omega); rw [hBo] at h5; omega); have e0 := hg4.cell (a := ⟨w.heap.size, 0, none⟩) (v := .int .i64 r.d.kind) (by go_simp) hB4; have e1 := hg4.cell (a := ⟨w.heap.size, 1, none⟩) (v := .int .i64 r.d.sender) (by go_simp) hB4; have e2 := hg4.cell (a := ⟨w.heap.size, 2, none⟩) (v := .bool r.d.zero) (by go_simp) hB4; have e3 := hg4.cell (a := ⟨w.heap.size, 3, none⟩) (v := .slice s7 r.d.recvs.length p7) (by go_simp) hB4; have e4 := hg4.cell (a := ⟨w.heap.size, 4, none⟩) (v := .slice s8 r.d.spans.length p8) (by go_simp) hB4; have ef := fun i (hi : i < 5) => hg4.frozen (a := ⟨w.heap.size, i, none⟩) (by simp only; omega) (by go_simp) hB4))
    | fail)
  have hn4 : ∀ x ∈ l4, x < _ → owN ow w (-2) x ≠ -2 := fun x hx hxs => by have := hl4 x hx hxs; omega
  have t7 := r7.step hg4 hn4 ho4
  have t8 := r8.step hg4 hn4 ho4
  have t9 := r9.step hg4 hn4 ho4
  clear a0 a1 a2 a3 a4 af y0 y1 y2 y3 y4 yf
  have hS5 := (((((GrowBut.setCell w4 ⟨w.heap.size, 0, none⟩ (.int .i64 r.d.kind)).trans (GrowBut.setCell _ ⟨w.heap.size, 1, none⟩ (.int .i64 r.d.sender))).trans (GrowBut.setCell _ ⟨w.heap.size, 2, none⟩ (.bool r.d.zero))).trans (GrowBut.setCell _ ⟨w.heap.size, 3, none⟩ (.slice s7 r.d.recvs.length p7))).trans (GrowBut.setCell _ ⟨w.heap.size, 4, none⟩ (.slice s8 r.d.spans.length p8)))
  have hP5 := hP4.step (ow' := ow4) hS5 (fun x hx _ => by simp at hx; rw [hx, ho4 _ (by omega)]; exact hBo) (fun _ _ => rfl)
  have hG : GrowBut w _ (w.heap.size :: l4) := (((((hg1.trans hgm).trans hg2).mono (fun x hx => nomatch hx)).trans (hS.mono (by simp))).trans (hg4.mono (fun x hx => List.mem_cons_of_mem _ hx))).trans (hS5.mono (by simp))
  have u7 := hS5.row t7.1 (fun j hj hm => by have := (hr7.lt j hj).1; simp at hm; omega)
  have u8 := hS5.row t8.1 (fun j hj hm => by have := (hr8.lt j hj).1; simp at hm; omega)
  have u9 := hS5.row t9.1 (fun j hj hm => by have := (hr9.lt j hj).1; simp at hm; omega)
  refine bodyPost_ret_by (v := .tuple #[.agg #[.int .i64 r.d.kind, .int .i64 r.d.sender, .bool r.d.zero, .slice s7 r.d.recvs.length p7, .slice s8 r.d.spans.length p8], .slice s9 r.frames.length p9, .int .i64 0]) (by clear hG hP5 u7 u8 u9 t7 t8 t9 r7 r8 r9 hS5 hS h3 h1 h hP4 hg4 hg2 hg1 hr7 hr8 hr9 hX3 hXm hm1 hn4; simp only [results, Try.f39]; go_simp) rfl ?_
  refine ⟨_, _, _, rfl, ow4, fun x hx => ?_, ⟨u7, t7.2⟩, ⟨u8, t8.2⟩, ⟨u9, t9.2⟩, hP5, _, hG, fun x hx hxs => ?_⟩
  · rw [ho4 x (by omega), owN_old x hx]
  · rcases List.mem_cons.1 hx with rfl | hx
    · omega
    · have := hl4 x hx (by omega)
      rw [owN_old x hxs] at this
      exact this

set_option maxRecDepth 100000 in
set_option maxHeartbeats 8000000 in
theorem leave_ok {w : World} {ow : Nat → Int} {P MB b LB EB N : Nat} {g : Nat → Int} {L : List Int} {deals : Int → Option PactR} {events : Int → List Int} (h : PactsAt w ow P MB b LB EB N g L deals events) (m part : Int) (hm : (Lit.int .u64 m).wf = true) (hp : (Lit.int .i64 part).wf = true) (r : PactR) (hd : deals m = some r) (ho : r.offered = true) (ht : part ∈ r.takers) (hN : N ≤ 90000) (hl : (events m).length ≤ 10000) (hl7 : r.d.recvs.length ≤ 100000) (hl8 : r.d.spans.length ≤ 100000) (hl9 : r.frames.length ≤ 100000) :
    Calls Try.prog 38 #[.pointer (some ⟨P, 0, none⟩), .int .u64 m, .int .i64 part] w fun e w' => ∃ v7 v8 v9, e = .returned (.tuple #[.agg #[.int .i64 r.d.kind, .int .i64 r.d.sender, .bool r.d.zero, v7, v8], v9, .int .i64 0]) ∧ ∃ ow', (∀ x, x < w.heap.size → ow' x = ow x) ∧ RowOf w' ow' (-2) 52 2 v7 r.d.recvs.length (encPr r.d.recvs) ∧ RowOf w' ow' (-2) 55 2 v8 r.d.spans.length (encPr r.d.spans) ∧ RowOf w' ow' (-2) 3 1 v9 r.frames.length (r.frames.map (Value.int .i64)) ∧ PactsAt w' ow' P MB b LB EB (N + 1) g (L) (setD deals m { r with takers := r.takers.erase part }) (noteE events m 4) ∧ ∃ l, GrowBut w w' l ∧ ∀ x ∈ l, x < w.heap.size → ow x = -1 ∨ ow x = m ∨ ow x = -m - 10 := by
  have hLl : LB < w.heap.size := (by obtain ⟨fl, htl, _⟩ := h.tl; exact htl.blt)
  have hm0 := h.pos m (.inl (by rw [hd]; exact fun e => by cases e))
  have hg1 := GrowBut.alloc w (.cells #[.int .i64 0, .int .i64 0, .bool false, .slice none 0 0, .slice none 0 0] 58) []
  have h1 := h.step (ow' := owN ow w (-2)) hg1 (fun x hx => by cases hx) owN_old
  have hM := (may_leave h1 m part hm hp r hd ho true (decide_eq_true ht)).mono (R' := fun e w' => e = .returned (.int .i64 0) ∧ GrowBut (w.alloc (.cells #[.int .i64 0, .int .i64 0, .bool false, .slice none 0 0, .slice none 0 0] 58)) w' []) (by rintro e w' ⟨rfl, rfl⟩; exact ⟨rfl, .refl _ _⟩)
  obtain ⟨X, hX, hlk, _⟩ := of_some h1 m hm true r hd ho
  have hp1 := h1.p1
  have hBo : owN ow w (-2) w.heap.size = -2 := owN_new (Nat.le_refl _)
  have hsz1 : (w.alloc (.cells #[.int .i64 0, .int .i64 0, .bool false, .slice none 0 0, .slice none 0 0] 58)).heap.size = w.heap.size + 1 := by go_simp
  have hBl : w.heap.size < (w.alloc (.cells #[.int .i64 0, .int .i64 0, .bool false, .slice none 0 0, .slice none 0 0] 58)).heap.size := by omega
  have z0 : (w.alloc (.cells #[.int .i64 0, .int .i64 0, .bool false, .slice none 0 0, .slice none 0 0] 58)).cell? ⟨w.heap.size, 0, none⟩ = some (.int .i64 0) := by go_simp
  have z1 : (w.alloc (.cells #[.int .i64 0, .int .i64 0, .bool false, .slice none 0 0, .slice none 0 0] 58)).cell? ⟨w.heap.size, 1, none⟩ = some (.int .i64 0) := by go_simp
  have z2 : (w.alloc (.cells #[.int .i64 0, .int .i64 0, .bool false, .slice none 0 0, .slice none 0 0] 58)).cell? ⟨w.heap.size, 2, none⟩ = some (.bool false) := by go_simp
  have z3 : (w.alloc (.cells #[.int .i64 0, .int .i64 0, .bool false, .slice none 0 0, .slice none 0 0] 58)).cell? ⟨w.heap.size, 3, none⟩ = some (.slice none 0 0) := by go_simp
  have z4 : (w.alloc (.cells #[.int .i64 0, .int .i64 0, .bool false, .slice none 0 0, .slice none 0 0] 58)).cell? ⟨w.heap.size, 4, none⟩ = some (.slice none 0 0) := by go_simp
  have zf : ∀ i, i < 5 → (w.alloc (.cells #[.int .i64 0, .int .i64 0, .bool false, .slice none 0 0, .slice none 0 0] 58)).frozen? ⟨w.heap.size, i, none⟩ = false := fun i hi => by go_simp
  go_enter Try.func38, Try.ntmps38
  go_upto_region 7 with (first
    | (go_at_call 55; (refine hM.mono ?_; clear hM; rintro e wm ⟨rfl, hgm⟩; have y0 := hgm.cell z0 (by simp); have y1 := hgm.cell z1 (by simp); have y2 := hgm.cell z2 (by simp); have y3 := hgm.cell z3 (by simp); have y4 := hgm.cell z4 (by simp); have yf := fun i (hi : i < 5) => hgm.frozen (a := ⟨w.heap.size, i, none⟩) hBl (zf i hi) (by simp); have hm1 := h1.step (ow' := owN ow w (-2)) hgm (fun x hx => by cases hx) (fun _ _ => rfl); have hXm := hX.step (ow' := owN ow w (-2)) hgm (fun x hx => by cases hx) (fun _ _ => rfl); have hp1m := hgm.cell hp1 (by simp); have hlkm := of_same h1 hm1 hgm (by simp) hm hlk; have hsm := hgm.size; obtain ⟨T, cT, hTo, hTt⟩ := hXm.c10; have hTl := hTt.blt; have hTB : w.heap.size ∉ [T] := (fun hx => by simp at hx; rw [← hx, hBo] at hTo; omega); clear z0 z1 z2 z3 z4 zf hlk hX hp1))
    | (at_delete; (refine wpList_delT rfl _ _ 103 3 rfl hTt keyW Try.underlying3 Try.underlying103 rfl part rfl hp ?_; intro w3 ht3 hg3; rw [seenS_del _ hXm.nd] at ht3; have hsz3 := hg3.size; have hX3 := hXm.tabbed cT hg3 ht3 (hXm.nd.erase part); have h3 := hm1.change hm hd hlkm hg3 (fun x hx _ => by simp at hx; rw [hx]; exact hTo) hX3 (fun _ _ => rfl); have hLT : LB ∉ [T] := (fun hx => by simp at hx; have h6 := hm1.own.2.2.2.1; rw [hx, hTo] at h6; omega); have hlk3 := of_same hm1 h3 hg3 hLT hm hlkm; have b0 := hg3.cell y0 hTB; have b1 := hg3.cell y1 hTB; have b2 := hg3.cell y2 hTB; have b3 := hg3.cell y3 hTB; have b4 := hg3.cell y4 hTB; have bf := fun i (hi : i < 5) => hg3.frozen (a := ⟨w.heap.size, i, none⟩) (by simp only; omega) (yf i hi) hTB; have hp03 := h3.p0; have hp13 := h3.p1; have hNt := note_calls h3 m 4 hm hm0 (by omega) hl))
    | (go_at_call 72; (refine hNt.mono ?_; clear hNt; rintro e w4 ⟨rfl, hP4, l4, hg4, hl4⟩; have hsz4 := hg4.size; have hl4' : ∀ x ∈ l4, owN ow w (-2) x = -m - 10 ∨ owN ow w (-2) x = -1 := (fun x hx => by rcases hl4 x hx with h6 | h6; exact .inl h6; rw [h6]; exact .inr h3.own.2.2.2.2); have hB4 : w.heap.size ∉ l4 := (fun hx => by have h6 := hl4' _ hx; rw [hBo] at h6; omega); have hL4 : LB ∉ l4 := (fun hx => by rcases hl4 _ hx with h6 | h6; exact absurd (h3.own.2.2.2.1.symm.trans h6) (by omega); exact absurd h6 h3.ne.2.2.2.2.2.2.2.2); have hlk4 := of_same h3 hP4 hg4 hL4 hm hlk3; have c0 := hg4.cell b0 hB4; have c1 := hg4.cell b1 hB4; have c2 := hg4.cell b2 hB4; have c3 := hg4.cell b3 hB4; have c4 := hg4.cell b4 hB4; have cf := fun i (hi : i < 5) => hg4.frozen (a := ⟨w.heap.size, i, none⟩) (by simp only; omega) (bf i hi) hB4; have hp14 := hP4.p1; have hX4 := hX3.step hg4 (fun x hx _ => by have := hl4' x hx; omega) (owN_old (ow := owN ow w (-2)) (m := -m - 10)); have hT := told_calls hX4 hl7 hl8 hl9))
    | (go_at_call 79; (refine hT.mono ?_; clear hT; rintro e w5 ⟨v7, v8, v9, rfl, hr7, hr8, hr9, hg5⟩; obtain ⟨s7, p7, rfl⟩ := row_form hr7; obtain ⟨s8, p8, rfl⟩ := row_form hr8; obtain ⟨s9, p9, rfl⟩ := row_form hr9; have d0 := hg5.cell c0 (by simp); have d1 := hg5.cell c1 (by simp); have d2 := hg5.cell c2 (by simp); have d3 := hg5.cell c3 (by simp); have d4 := hg5.cell c4 (by simp); have df := fun i (hi : i < 5) => hg5.frozen (a := ⟨w.heap.size, i, none⟩) (by simp only; omega) (cf i hi) (by simp); have hs5 := hg5.size; have hS := (((((GrowBut.setCell w5 ⟨w.heap.size, 0, none⟩ (.int .i64 r.d.kind)).trans (GrowBut.setCell _ ⟨w.heap.size, 1, none⟩ (.int .i64 r.d.sender))).trans (GrowBut.setCell _ ⟨w.heap.size, 2, none⟩ (.bool r.d.zero))).trans (GrowBut.setCell _ ⟨w.heap.size, 3, none⟩ (.slice s7 r.d.recvs.length p7))).trans (GrowBut.setCell _ ⟨w.heap.size, 4, none⟩ (.slice s8 r.d.spans.length p8))); have hSz := hS.size; have hBo4 : (owN (owN ow w (-2)) w3 (-m - 10)) w.heap.size = -2 := (by rw [owN_old _ (by omega)]; exact hBo); have h5 := hP4.step (ow' := owN (owN (owN ow w (-2)) w3 (-m - 10)) w4 (-2)) ((hg5.mono (by simp)).trans hS) (fun x hx _ => by simp at hx; rw [hx]; exact hBo4) owN_old; have r7 : RowOf _ (owN (owN (owN ow w (-2)) w3 (-m - 10)) w4 (-2)) (-2) 52 2 (.slice s7 r.d.recvs.length p7) r.d.recvs.length (encPr r.d.recvs) := ⟨row_low (hS.row hr7 (fun j hj hm => by have := (hr7.lt j hj).1; simp at hm; omega)) (Nat.zero_le _), fun j hj => owN_new (by have := (hr7.lt j hj).1; omega)⟩; have r8 : RowOf _ (owN (owN (owN ow w (-2)) w3 (-m - 10)) w4 (-2)) (-2) 55 2 (.slice s8 r.d.spans.length p8) r.d.spans.length (encPr r.d.spans) := ⟨row_low (hS.row hr8 (fun j hj hm => by have := (hr8.lt j hj).1; simp at hm; omega)) (Nat.zero_le _), fun j hj => owN_new (by have := (hr8.lt j hj).1; omega)⟩; have r9 : RowOf _ (owN (owN (owN ow w (-2)) w3 (-m - 10)) w4 (-2)) (-2) 3 1 (.slice s9 r.frames.length p9) r.frames.length (r.frames.map (Value.int .i64)) := ⟨row_low (hS.row hr9 (fun j hj hm => by have := (hr9.lt j hj).1; simp at hm; omega)) (Nat.zero_le _), fun j hj => owN_new (by have := (hr9.lt j hj).1; omega)⟩))
    | fail)
  have k0 : (((((w5.setCell ⟨w.heap.size, 0, none⟩ (.int .i64 r.d.kind)).setCell ⟨w.heap.size, 1, none⟩ (.int .i64 r.d.sender)).setCell ⟨w.heap.size, 2, none⟩ (.bool r.d.zero)).setCell ⟨w.heap.size, 3, none⟩ (.slice s7 r.d.recvs.length p7)).setCell ⟨w.heap.size, 4, none⟩ (.slice s8 r.d.spans.length p8)).cell? ⟨w.heap.size, 0, none⟩ = some (.int .i64 r.d.kind) := by go_simp
  have k1 : (((((w5.setCell ⟨w.heap.size, 0, none⟩ (.int .i64 r.d.kind)).setCell ⟨w.heap.size, 1, none⟩ (.int .i64 r.d.sender)).setCell ⟨w.heap.size, 2, none⟩ (.bool r.d.zero)).setCell ⟨w.heap.size, 3, none⟩ (.slice s7 r.d.recvs.length p7)).setCell ⟨w.heap.size, 4, none⟩ (.slice s8 r.d.spans.length p8)).cell? ⟨w.heap.size, 1, none⟩ = some (.int .i64 r.d.sender) := by go_simp
  have k2 : (((((w5.setCell ⟨w.heap.size, 0, none⟩ (.int .i64 r.d.kind)).setCell ⟨w.heap.size, 1, none⟩ (.int .i64 r.d.sender)).setCell ⟨w.heap.size, 2, none⟩ (.bool r.d.zero)).setCell ⟨w.heap.size, 3, none⟩ (.slice s7 r.d.recvs.length p7)).setCell ⟨w.heap.size, 4, none⟩ (.slice s8 r.d.spans.length p8)).cell? ⟨w.heap.size, 2, none⟩ = some (.bool r.d.zero) := by go_simp
  have k3 : (((((w5.setCell ⟨w.heap.size, 0, none⟩ (.int .i64 r.d.kind)).setCell ⟨w.heap.size, 1, none⟩ (.int .i64 r.d.sender)).setCell ⟨w.heap.size, 2, none⟩ (.bool r.d.zero)).setCell ⟨w.heap.size, 3, none⟩ (.slice s7 r.d.recvs.length p7)).setCell ⟨w.heap.size, 4, none⟩ (.slice s8 r.d.spans.length p8)).cell? ⟨w.heap.size, 3, none⟩ = some (.slice s7 r.d.recvs.length p7) := by go_simp
  have k4 : (((((w5.setCell ⟨w.heap.size, 0, none⟩ (.int .i64 r.d.kind)).setCell ⟨w.heap.size, 1, none⟩ (.int .i64 r.d.sender)).setCell ⟨w.heap.size, 2, none⟩ (.bool r.d.zero)).setCell ⟨w.heap.size, 3, none⟩ (.slice s7 r.d.recvs.length p7)).setCell ⟨w.heap.size, 4, none⟩ (.slice s8 r.d.spans.length p8)).cell? ⟨w.heap.size, 4, none⟩ = some (.slice s8 r.d.spans.length p8) := by go_simp
  have kf : ∀ i, i < 5 → (((((w5.setCell ⟨w.heap.size, 0, none⟩ (.int .i64 r.d.kind)).setCell ⟨w.heap.size, 1, none⟩ (.int .i64 r.d.sender)).setCell ⟨w.heap.size, 2, none⟩ (.bool r.d.zero)).setCell ⟨w.heap.size, 3, none⟩ (.slice s7 r.d.recvs.length p7)).setCell ⟨w.heap.size, 4, none⟩ (.slice s8 r.d.spans.length p8)).frozen? ⟨w.heap.size, i, none⟩ = false := fun i hi => by go_simp
  clear b0 b1 b2 b3 b4 bf y0 y1 y2 y3 y4 yf c0 c1 c2 c3 c4 cf d0 d1 d2 d3 d4 df
  generalize (((((w5.setCell ⟨w.heap.size, 0, none⟩ (.int .i64 r.d.kind)).setCell ⟨w.heap.size, 1, none⟩ (.int .i64 r.d.sender)).setCell ⟨w.heap.size, 2, none⟩ (.bool r.d.zero)).setCell ⟨w.heap.size, 3, none⟩ (.slice s7 r.d.recvs.length p7)).setCell ⟨w.heap.size, 4, none⟩ (.slice s8 r.d.spans.length p8)) = w6 at hS h5 r7 r8 r9 k0 k1 k2 k3 k4 kf hSz ⊢
  go_wp2_with fail
  have hS7 := (((((GrowBut.setCell w6 ⟨w.heap.size, 0, none⟩ (.int .i64 r.d.kind)).trans (GrowBut.setCell _ ⟨w.heap.size, 1, none⟩ (.int .i64 r.d.sender))).trans (GrowBut.setCell _ ⟨w.heap.size, 2, none⟩ (.bool r.d.zero))).trans (GrowBut.setCell _ ⟨w.heap.size, 3, none⟩ (.slice s7 r.d.recvs.length p7))).trans (GrowBut.setCell _ ⟨w.heap.size, 4, none⟩ (.slice s8 r.d.spans.length p8)))
  have hBo6 : owN (owN (owN ow w (-2)) w3 (-m - 10)) w4 (-2) w.heap.size = -2 := by rw [owN_old _ (by omega)]; exact hBo4
  have hP7 := h5.step (ow' := owN (owN (owN ow w (-2)) w3 (-m - 10)) w4 (-2)) hS7 (fun x hx _ => by simp at hx; rw [hx]; exact hBo6) (fun _ _ => rfl)
  have hG : GrowBut w _ (w.heap.size :: T :: l4) := (((((hg1.trans hgm).mono (fun x hx => nomatch hx)).trans (hg3.mono (by simp))).trans (hg4.mono (fun x hx => List.mem_cons_of_mem _ (List.mem_cons_of_mem _ hx)))).trans ((hg5.mono (fun x hx => nomatch hx)).trans (hS.mono (by simp)))).trans (hS7.mono (by simp))
  have u7 := hS7.row r7.1 (fun j hj hm => by have := (hr7.lt j hj).1; simp at hm; omega)
  have u8 := hS7.row r8.1 (fun j hj hm => by have := (hr8.lt j hj).1; simp at hm; omega)
  have u9 := hS7.row r9.1 (fun j hj hm => by have := (hr9.lt j hj).1; simp at hm; omega)
  refine bodyPost_ret_by (v := .tuple #[.agg #[.int .i64 r.d.kind, .int .i64 r.d.sender, .bool r.d.zero, .slice s7 r.d.recvs.length p7, .slice s8 r.d.spans.length p8], .slice s9 r.frames.length p9, .int .i64 0]) (by clear hG hP7 u7 u8 u9 hS7 hS h3 h1 h hP4 hg4 hg5 hg1 hr7 hr8 hr9 hX4 hX3 hXm hm1; simp only [results, Try.f38]; go_simp) rfl ?_
  refine ⟨_, _, _, rfl, _, fun x hx => ?_, ⟨u7, r7.2⟩, ⟨u8, r8.2⟩, ⟨u9, r9.2⟩, hP7, _, hG, fun x hx hxs => ?_⟩
  · rw [owN_old x (by omega), owN_old x (by omega), owN_old x hx]
  · rcases List.mem_cons.1 hx with rfl | hx
    · omega
    · rcases List.mem_cons.1 hx with rfl | hx
      · rw [owN_old _ hxs] at hTo; exact .inr (.inl hTo)
      · have := hl4' x hx
        rw [owN_old x hxs] at this
        omega

end Go.Proofs.Ytcoedmiichppdaa
