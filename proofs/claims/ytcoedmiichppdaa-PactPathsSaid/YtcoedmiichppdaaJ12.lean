/-
  Package pact: begun.
-/
import Derived.Test.YtcoedmiichppdaaJ5
import Derived.Test.YtcoedmiichppdaaJ11
import Derived.Lib.SlBytesRow
import Derived.Lib.SlBytesConst

namespace Go.Proofs.Ytcoedmiichppdaa
open Go Go.RowKit Go.Maps Go.Am
set_option linter.unusedVariables false
set_option linter.unusedSimpArgs false

/-- The deal of begun, at each step. -/
def bD : DealR := ⟨2, 0, false, [(1, 3)], [(2, 1)]⟩
def bR0 : PactR := ⟨0, 2, [], 1, false, ⟨0, 0, false, [], []⟩, [], []⟩
def bR1 : PactR := ⟨0, 2, [120], 1, false, ⟨0, 0, false, [], []⟩, [], []⟩
def bR2 : PactR := ⟨0, 2, [120], 1, true, bD, [7], []⟩
def bR3 : PactR := ⟨0, 2, [120], 1, true, bD, [7], [1]⟩

set_option maxRecDepth 100000 in
set_option maxHeartbeats 8000000 in
theorem begunPact_calls (w : World) : Calls Try.prog 32 #[] w fun e w' => e = .returned (.bool true) ∧ GrowBut w w' [] := by
  have hm : (Lit.int .u64 4294967297).wf = true := by decide
  have hB : ∀ (w1 : World) (P : Nat) (ow1 : Nat → Int), AllP w1 ow1 P 0 (fun _ => 0) [] (fun _ => none) (fun _ => []) → Calls Try.prog 34 #[.pointer (some ⟨P, 0, none⟩), .int .i64 0, .int .i64 2, .int .i64 1] (((w1.alloc (.cells #[.int .i64 1, .int .i64 3] 52)).alloc (.cells #[.int .i64 2, .int .i64 1] 55)).alloc (.cells #[.int .i64 2, .int .i64 0, .bool false, .slice (some ⟨w1.heap.size, 0, none⟩) 1 1, .slice (some ⟨w1.heap.size + 1, 0, none⟩) 1 1] 58)) fun e w' => ∃ ow', e = .returned (.tuple #[.int .u64 4294967297, .int .i64 0]) ∧
      One w' ow' P 4294967297 2 (some bR0) [1] ∧ DealAt w' ow' (w1.heap.size + 1 + 1) bD ∧ Kept w1 w' ow1 ow' := fun w1 P ow1 hA => by
    have hg := ((GrowBut.alloc w1 (.cells #[.int .i64 1, .int .i64 3] 52) []).trans (GrowBut.alloc _ (.cells #[.int .i64 2, .int .i64 1] 55) [])).trans (GrowBut.alloc _ (.cells #[.int .i64 2, .int .i64 0, .bool false, .slice (some ⟨w1.heap.size, 0, none⟩) 1 1, .slice (some ⟨w1.heap.size + 1, 0, none⟩) 1 1] 58) [])
    refine (begin_one (hA.kept hg (fun x hx => by cases hx) (owN_old (m := -2))) 0 2 1 (by omega) (by omega) (by omega) (by omega) (by omega) 4294967297 (by omega)).mono ?_
    rintro e w' ⟨ow', rfl, hO, hk⟩
    exact ⟨ow', rfl, hO, (dealLit w1 ow1 2 0 1 3 2 1 (Nat.le_refl _)).kept hk, (Kept.quiet hg).trans hk⟩
  have hP := fun (w2 : World) (P : Nat) (ow2 : Nat → Int) (h : One w2 ow2 P 4294967297 2 (some bR0) [1]) => piece_one (h.quiet (GrowBut.alloc w2 (.cells #[.int .u8 120] 5 (1, 2)) [])) 0 hm (some ⟨w2.heap.size, 0, none⟩) 1 [120] (by decide) (fun _ => ⟨w2.heap.size, 0, rfl, fun j hj => by
    have : j = 0 := by simpa using hj
    subst this
    exact World.cell?_alloc_mark w2 #[.int .u8 120] 5 (1, 2) 0⟩)
  rw [show kindPc (some bR0) 0 [120] = 2 by rfl, show lastPc (some bR0) 0 [120] = true by rfl, show mayPc (some bR0) 0 [120] = true by rfl, show wholePc (some bR0) 0 [120] = [120] by rfl, show pieceO (some bR0) 0 [120] = some bR1 by rfl] at hP
  have hF := fun (w3 : World) (P : Nat) (ow3 : Nat → Int) (h : One w3 ow3 P 4294967297 2 (some bR1) [1]) (v7 v8 : Value) (r7 : w3.ownsRow 0 52 2 v7 1 (encPr [(1, 3)])) (r8 : w3.ownsRow 0 55 2 v8 1 (encPr [(2, 1)])) => offer_one (h.quiet (GrowBut.alloc w3 (.cells #[.int .i64 7] 3) [])) hm (by omega) (by decide) bD [7] (v7 := v7) (v8 := v8) (r7.alloc _) (r8.alloc _) (World.ownsRow_lit (base := 0) (size := 1) (e := 3) w3 #[.int .i64 7] 1 (by omega) (by unfold maxLen; omega) rfl) (by decide) (by decide) (by decide)
  rw [show (if isFull (some bR1) = true then (0 : Int) else -2) = 0 by rfl, show offerO (some bR1) bD [7] = some bR2 by rfl, show offerE (some bR1) [1] = [1, 2] by rfl] at hF
  have hT := fun (w4 : World) (P : Nat) (ow4 : Nat → Int) (h : One w4 ow4 P 4294967297 4 (some bR2) [1, 2]) => take_one h 1 hm (by decide) (by omega) (by decide)
  rw [show mayF (some bR2) 1 3 = 0 by rfl, show takeP (some bR2) 1 = 3 by rfl, show toldD (some bR2) 0 = bD by rfl, show takeF (some bR2) 1 = [7] by rfl, show takeO (some bR2) 1 = some bR3 by rfl, show takeE (some bR2) 1 [1, 2] = [1, 2, 3] by rfl] at hT
  have hR := fun (w4 : World) (P : Nat) (ow4 : Nat → Int) (h : One w4 ow4 P 4294967297 6 (some bR3) [1, 2, 3]) (o : Obj) => recl_one (h.quiet (GrowBut.alloc w4 o [])) 0 hm (by decide) (by omega) (by decide)
  rw [show mayF (some bR3) 0 5 = -6 by rfl, show reclO (some bR3) 0 = some bR3 by rfl, show reclE (some bR3) 0 [1, 2, 3] = [1, 2, 3] by rfl] at hR
  have hL := fun (w4 : World) (P : Nat) (ow4 : Nat → Int) (h : One w4 ow4 P 4294967297 8 (some bR3) [1, 2, 3]) (o : Obj) => leave_one (h.quiet (GrowBut.alloc w4 o [])) 1 hm (by decide) (by omega) (by decide)
  rw [show mayF (some bR3) 1 4 = 0 by rfl, show leaveO (some bR3) 1 = some bR2 by rfl, show leaveE (some bR3) 1 [1, 2, 3] = [1, 2, 3, 4] by rfl] at hL
  have hS := fun (w4 : World) (P : Nat) (ow4 : Nat → Int) (h : One w4 ow4 P 4294967297 10 (some bR2) [1, 2, 3, 4]) (o : Obj) => recl_one (h.quiet (GrowBut.alloc w4 o [])) 0 hm (by decide) (by omega) (by decide)
  rw [show mayF (some bR2) 0 5 = 0 by rfl, show reclO (some bR2) 0 = none by rfl, show reclE (some bR2) 0 [1, 2, 3, 4] = [1, 2, 3, 4, 5] by rfl] at hS
  have hE := fun (w4 : World) (P : Nat) (ow4 : Nat → Int) (h : One w4 ow4 P 4294967297 12 none [1, 2, 3, 4, 5]) (o : Obj) => events_one (h.quiet (GrowBut.alloc w4 o [])) hm (by omega) (by decide)
  have hconv := fun (w : World) (g c : Nat) (hc : w.cell? ⟨g, 0, none⟩ = some (.int .u8 120)) => run_convert_bytes_arg (P := Try.prog) (w := w) 48 5 Try.underlying48 Try.underlying5 g 0 1 c [120] rfl (fun i hi => by
    have : i = 0 := by omega
    subst this
    exact hc)
  have hid := fun (w : World) (C : Array Value) (n c : Nat) => Lib.run_convert_bytes_const (P := Try.prog) w 48 5 C n c Try.underlying48 Try.underlying5
  have hK := fun (w : World) (ow : Nat → Int) (o : Obj) => Kept.quiet (ow := ow) (GrowBut.alloc w o [])
  go_enter Try.func32, Try.ntmps32
  go_upto_region 13 with (first
    | (go_at_call 33; (refine (new_any w).mono ?_; rintro e w1 ⟨P, ow1, rfl, hA1, hlo1, hg1⟩))
    | (go_at_call 34; (refine (hB w1 P ow1 hA1).mono ?_; clear hB; rintro e w2 ⟨ow2, rfl, hO2, hD2, hk2⟩))
    | (go_at_call 35; (refine (hP w2 P ow2 hO2).mono ?_; clear hP; rintro e w3 ⟨ow3, vw, rfl, hw3, hO3, hk3'⟩; have hk3 := (hK w2 ow2 _).trans hk3'; clear hk3'; have hD3 := hD2.kept hk3; obtain ⟨sw, cw, rfl⟩ := row_form hw3.1; obtain ⟨hDo, v7, v8, c0, c1, c2, c3, c4, r7, r8⟩ := hD3))
    | (go_at_call 36; (refine (hF w3 P ow3 hO3 v7 v8 r7.1 r8.1).mono ?_; clear hF; rintro e w4 ⟨ow4, rfl, hO4, hk4'⟩; have hk4 := (hK w3 ow3 _).trans hk4'; clear hk4'; have hw4 := hk4.row hw3))
    | (go_at_call 37; (refine (hT w4 P ow4 hO4).mono ?_; clear hT; rintro e w5 ⟨ow5, vd, vf, rfl, ⟨d7, d8, rfl, dr7, dr8⟩, hf5, hO5, hk5⟩; obtain ⟨ds7, dc7, rfl⟩ := row_form dr7.1; obtain ⟨ds8, dc8, rfl⟩ := row_form dr8.1; obtain ⟨sf, cf, rfl⟩ := row_form hf5.1; have hw5 := hk5.row hw4))
    | (go_at_call 39; (refine (hR w5 P ow5 hO5 _).mono ?_; clear hR; rintro e w6 ⟨ow6, vd6, vf6, rfl, ⟨e7, e8, rfl, er7, er8⟩, hf6, hO6, hk6'⟩; obtain ⟨es7, ec7, rfl⟩ := row_form er7.1; obtain ⟨es8, ec8, rfl⟩ := row_form er8.1; have hk6 := (hK w5 ow5 _).trans hk6'; clear hk6' hf6; have hw6 := hk6.row hw5; have hf6 := hk6.row hf5))
    | (go_at_call 38; (refine (hL w6 P ow6 hO6 _).mono ?_; clear hL; rintro e w7 ⟨ow7, vd7, vf7, rfl, ⟨g7, g8, rfl, gr7, gr8⟩, hf7, hO7, hk7'⟩; obtain ⟨gs7, gc7, rfl⟩ := row_form gr7.1; obtain ⟨gs8, gc8, rfl⟩ := row_form gr8.1; have hk7 := (hK w6 ow6 _).trans hk7'; clear hk7' hf7; have hw7 := hk7.row hw6; have hf7 := hk7.row hf6))
    | (go_at_call 39; (refine (hS w7 P ow7 hO7 _).mono ?_; clear hS; rintro e w8 ⟨ow8, vd8, vf8, rfl, ⟨h7, h8, rfl, hr7, hr8⟩, hf8, hO8, hk8'⟩; obtain ⟨hs7, hc7, rfl⟩ := row_form hr7.1; obtain ⟨hs8, hc8, rfl⟩ := row_form hr8.1; have hk8 := (hK w7 ow7 _).trans hk8'; clear hk8' hf8; have hw8 := hk8.row hw7; have hf8 := hk8.row hf7))
    | (go_at_call 42; (refine (hE w8 P ow8 hO8 _).mono ?_; clear hE; rintro e w9 ⟨ve, rfl, hev, hg9'⟩; obtain ⟨se, ce, rfl⟩ := row_form hev; have hk9 := (hK w8 ow8 _).trans (Kept.quiet hg9'); clear hg9'; have hw9 := hk9.row hw8; have hf9 := hk9.row hf8))
    | fail)
  have hG9 := (((((((hk2.trans hk3).trans hk4).trans hk5).trans hk6).trans hk7).trans hk8).trans hk9).grow hg1 hlo1
  have hconv9 := hconv w9
  have hf0 := hf9.1
  have hw0 := hw9.1
  clear hk2 hk3 hk4 hk5 hk6 hk7 hk8 hk9 hw3 hw4 hw5 hw6 hw7 hw8 hw9 hf5 hf6 hf7 hf8 hf9 hconv hK hid hO2 hO3 hO4 hO5 hO6 hO7 hO8 hA1 r7 r8
  obtain ⟨gf, cpf, hvf, _, _⟩ := row_block hf0 (by decide)
  cases hvf
  obtain ⟨gw, cpw, hvw, _, _⟩ := row_block hw0 (by decide)
  cases hvw
  obtain ⟨ge, cpe, hve, _, _⟩ := row_block hev (by decide)
  cases hve
  have kf := hf0.cellAt 0 (by decide)
  have kw := hw0.cellAt 0 (by decide)
  have ke := hev.cellAt 4 (by decide)
  simp only [List.map_cons, List.map_nil, List.getElem?_cons_zero, List.getElem?_cons_succ] at kf kw ke
  have hcv := fun (c : Nat) => hconv9 gw c kw 9 Try.underlying9
  rw [show strOfNums [120] = (⟨#[120]⟩ : ByteArray) from rfl] at hcv
  clear hf0 hw0 hev hconv9
  go_wp2_with fail
  go_ret
  exact ⟨rfl, hG9⟩

end Go.Proofs.Ytcoedmiichppdaa


/-
  PactDrops: the walk.
-/
namespace Go.Proofs.Ytcoedmiichppdaa
open Go Go.RowKit Go.Maps Go.Am
set_option linter.unusedVariables false
set_option linter.unusedSimpArgs false

/-- A deal of Lend that has begun, of one byte. -/
def dR : PactR := ⟨2, 2, [], 1, false, ⟨0, 0, false, [], []⟩, [], []⟩

/-- m's deal is o, its events ev; the others are as they were. -/
def OfM (w : World) (ow : Nat → Int) (P N : Nat) (g : Nat → Int) (L : List Int) (deals : Int → Option PactR) (events : Int → List Int) (m : Int) (o : Option PactR) (ev : List Int) : Prop := AllP w ow P N g (nextL L m o) (updD deals m o) (updE events m ev)

theorem updD_upd (deals : Int → Option PactR) (m : Int) (o o' : Option PactR) : updD (updD deals m o) m o' = updD deals m o' := by funext k; unfold updD; split <;> rfl

theorem updE_upd (events : Int → List Int) (m : Int) (o o' : List Int) : updE (updE events m o) m o' = updE events m o' := by funext k; unfold updE; split <;> rfl

theorem nextL_next {L : List Int} (hn : L.Nodup) (m : Int) (o o' : Option PactR) (h : o = none → o' = none) : nextL (nextL L m o) m o' = nextL L m o' := by
  cases o with
  | some r => rfl
  | none =>
    rw [h rfl]
    unfold nextL
    simp only [Option.isSome_none, Bool.false_eq_true, if_false]
    exact List.erase_of_not_mem (fun hx => (hn.mem_erase_iff.1 hx).1 rfl)

theorem AllP.ofM {w : World} {ow : Nat → Int} {P N : Nat} {g : Nat → Int} {L : List Int} {deals : Int → Option PactR} {events : Int → List Int} (h : AllP w ow P N g L deals events) (m : Int) : OfM w ow P N g L deals events m (deals m) (events m) := by
  unfold OfM
  exact h.same m h

section
variable {w : World} {ow : Nat → Int} {P N : Nat} {g : Nat → Int} {L : List Int} {deals : Int → Option PactR} {events : Int → List Int} {m : Int} {o : Option PactR} {ev : List Int}

theorem OfM.quiet {w' : World} (h : OfM w ow P N g L deals events m o ev) (hg : GrowBut w w' []) : OfM w' (owN ow w (-2)) P N g L deals events m o ev := AllP.kept h hg (fun x hx => by cases hx) owN_old

theorem OfM.step {w' : World} {ow' : Nat → Int} {N' : Nat} {o' : Option PactR} {ev' : List Int} (hn : L.Nodup) (h : AllP w' ow' P N' g (nextL (nextL L m o) m o') (updD (updD deals m o) m o') (updE (updE events m ev) m ev')) (ho : o = none → o' = none) : OfM w' ow' P N' g L deals events m o' ev' := by
  unfold OfM
  rw [nextL_next hn m o o' ho, updD_upd, updE_upd] at h
  exact h

theorem drop_of (hn : L.Nodup) (h : OfM w ow P N g L deals events m o ev) (hm : (Lit.int .u64 m).wf = true) (hN : N ≤ 90000) (hl : ev.length ≤ 10000) :
    Calls Try.prog 40 #[.pointer (some ⟨P, 0, none⟩), .int .u64 m] w fun e w' => ∃ ow', e = .returned (.bool (isSent o)) ∧ OfM w' ow' P (N + 2) g L deals events m (dropO o) (dropE o ev) ∧ Kept w w' ow ow' := by
  refine Calls.mono (drop_any h m hm hN (by rw [updE_same]; exact hl)) ?_
  rintro e w' ⟨ow', rfl, h3, h4⟩
  rw [updD_same, updE_same] at h3
  exact ⟨ow', by rw [updD_same], OfM.step hn h3 (fun e => by subst e; rfl), h4⟩

theorem recl_of (hn : L.Nodup) (h : OfM w ow P N g L deals events m o ev) (who : Int) (hm : (Lit.int .u64 m).wf = true) (hp : (Lit.int .i64 who).wf = true) (hN : N ≤ 90000) (hl : ev.length ≤ 10000) :
    Calls Try.prog 39 #[.pointer (some ⟨P, 0, none⟩), .int .u64 m, .int .i64 who] w fun e w' => ∃ ow' vd vf, e = .returned (.tuple #[vd, vf, .int .i64 (mayF o who 5)]) ∧ DealV w' ow' (toldD o (mayF o who 5)) vd ∧ FramesV w' ow' (toldF o (mayF o who 5)) vf ∧
      OfM w' ow' P (N + 2) g L deals events m (reclO o who) (reclE o who ev) ∧ Kept w w' ow ow' := by
  refine Calls.mono (recl_any h m who hm hp hN (by rw [updE_same]; exact hl)) ?_
  rintro e w' ⟨ow', vd, vf, rfl, h1, h2, h3, h4⟩
  rw [updD_same, updE_same] at h3
  rw [updD_same] at h1 h2
  exact ⟨ow', vd, vf, by rw [updD_same], h1, h2, OfM.step hn h3 (fun e => by subst e; unfold reclO; split <;> rfl), h4⟩

theorem offer_of (hn : L.Nodup) (h : OfM w ow P N g L deals events m o ev) (hm : (Lit.int .u64 m).wf = true) (hN : N ≤ 90000) (hl : ev.length ≤ 10000)
    (d : DealR) (fr : List Int) {v7 v8 v9 : Value} (h7 : w.ownsRow 0 52 2 v7 d.recvs.length (encPr d.recvs)) (h8 : w.ownsRow 0 55 2 v8 d.spans.length (encPr d.spans)) (h9 : w.ownsRow 0 3 1 v9 fr.length (fr.map (Value.int .i64))) (hl7 : d.recvs.length ≤ 10000) (hl8 : d.spans.length ≤ 10000) (hl9 : fr.length ≤ 10000) :
    Calls Try.prog 36 #[.pointer (some ⟨P, 0, none⟩), .int .u64 m, .agg #[.int .i64 d.kind, .int .i64 d.sender, .bool d.zero, v7, v8], v9] w fun e w' => ∃ ow', e = .returned (.int .i64 (if isFull o = true then 0 else -2)) ∧
      OfM w' ow' P (N + 2) g L deals events m (offerO o d fr) (offerE o ev) ∧ Kept w w' ow ow' := by
  refine Calls.mono (offer_any h m hm hN (by rw [updE_same]; exact hl) d fr h7 h8 h9 hl7 hl8 hl9) ?_
  rintro e w' ⟨ow', rfl, h3, h4⟩
  rw [updD_same, updE_same] at h3
  exact ⟨ow', by rw [updD_same], OfM.step hn h3 (fun e => by subst e; rfl), h4⟩

theorem piece_of (hn : L.Nodup) (h : OfM w ow P N g L deals events m o ev) (s : Int) (hm : (Lit.int .u64 m).wf = true)
    (sa : Option Addr) (c : Nat) (ys : List Int) (hys : ys.length ≤ 10000) (hy : 0 < ys.length → ∃ gb off, sa = some ⟨gb, off, none⟩ ∧ ∀ j, j < ys.length → w.cell? ⟨gb, off + j, none⟩ = some (.int .u8 (ys.getD j 0))) :
    Calls Try.prog 35 #[.pointer (some ⟨P, 0, none⟩), .int .u64 m, .int .i64 s, .slice sa ys.length c] w fun e w' => ∃ ow' v, e = .returned (.tuple #[v, .int .i64 (kindPc o s ys), .bool (lastPc o s ys), .int .i64 (if mayPc o s ys = true then 0 else -2)]) ∧ BytesV w' ow' (wholePc o s ys) v ∧
      OfM w' ow' P N g L deals events m (pieceO o s ys) ev ∧ Kept w w' ow ow' := by
  refine Calls.mono (piece_any h m s hm sa c ys hys hy) ?_
  rintro e w' ⟨ow', v, rfl, h2, h3, h4⟩
  rw [updD_same, updE_same] at h3
  rw [updD_same] at h2
  exact ⟨ow', v, by rw [updD_same], h2, OfM.step hn h3 (fun e => by subst e; rfl), h4⟩

theorem events_of (h : OfM w ow P N g L deals events m o ev) (hm : (Lit.int .u64 m).wf = true) (hm0 : 0 ≤ m) (hl : ev.length ≤ 10000) :
    Calls Try.prog 42 #[.pointer (some ⟨P, 0, none⟩), .int .u64 m] w fun e w' => ∃ v, e = .returned v ∧ w'.ownsRow w.heap.size 3 1 v ev.length (ev.map (Value.int .i64)) ∧ GrowBut w w' [] := by
  have := events_any h m hm hm0 (by rw [updE_same]; exact hl)
  rw [updE_same] at this
  exact this

end

/-- A mark of sender 2. -/
def mk2 (j : Int) : Int := 12884901888 + j

theorem mk2_wf {j : Int} (h0 : 0 ≤ j) (h1 : j < 1000000) : (Lit.int .u64 (mk2 j)).wf = true := by
  simp only [Lit.wf, Bool.and_eq_true, decide_eq_true_eq]
  have hmn : IntKind.u64.min = 0 := by decide
  have hM : IntKind.u64.max = 18446744073709551615 := by decide
  unfold mk2
  rw [hmn, hM]
  omega

/-- So many marks of sender 2 are there, just begun. -/
structure DropsAt (w : World) (ow : Nat → Int) (P N : Nat) (g : Nat → Int) (L : List Int) (deals : Int → Option PactR) (events : Int → List Int) (ms : List Int) : Prop where
  all_ : AllP w ow P N g L deals events
  nd : ms.Nodup
  is_ : ∀ x ∈ ms, deals x = some dR ∧ events x = [1]
  only : ∀ x, (deals x).isSome = true → x ∈ ms
  given : ∀ x ∈ ms, ∃ j : Int, 1 ≤ j ∧ j ≤ g 2 ∧ x = mk2 j
  fresh : ∀ j : Int, g 2 < j → events (mk2 j) = []
  few : g 2 ≤ 1000

theorem DropsAt.perm {w : World} {ow : Nat → Int} {P N : Nat} {g : Nat → Int} {L : List Int} {deals : Int → Option PactR} {events : Int → List Int} {ms : List Int} (h : DropsAt w ow P N g L deals events ms) : L.Perm ms := by
  refine (List.perm_ext_iff_of_nodup h.all_.nodup h.nd).2 fun x => ?_
  rw [h.all_.mem]
  exact ⟨h.only x, fun hx => by rw [(h.is_ x hx).1]; rfl⟩

theorem whose_mk2 {j : Int} (h0 : 1 ≤ j) (h1 : j ≤ 1000) : whose (mk2 j) = 2 := by
  have := whose_new (s := 2) (j := j) (by omega) (by omega)
  simpa [mk2] using this

theorem DropsAt.count {w : World} {ow : Nat → Int} {P N : Nat} {g : Nat → Int} {L : List Int} {deals : Int → Option PactR} {events : Int → List Int} {ms : List Int} (h : DropsAt w ow P N g L deals events ms) : (ofWho L 2).length = ms.length := by
  unfold ofWho
  rw [(h.perm.filter _).length_eq]
  congr 1
  rw [List.filter_eq_self]
  intro x hx
  obtain ⟨j, h1, h2, rfl⟩ := h.given x hx
  simpa using whose_mk2 h1 (by have := h.few; omega)

theorem DropsAt.permute {w : World} {ow : Nat → Int} {P N : Nat} {g : Nat → Int} {L : List Int} {deals : Int → Option PactR} {events : Int → List Int} {ms ms' : List Int} (h : DropsAt w ow P N g L deals events ms) (hp : ms'.Perm ms) : DropsAt w ow P N g L deals events ms' :=
  ⟨h.all_, hp.nodup_iff.2 h.nd, fun x hx => h.is_ x (hp.mem_iff.1 hx), fun x hx => hp.mem_iff.2 (h.only x hx), fun x hx => h.given x (hp.mem_iff.1 hx), h.fresh, h.few⟩

theorem DropsAt.kept {w w' : World} {ow ow' : Nat → Int} {P N : Nat} {g : Nat → Int} {L : List Int} {deals : Int → Option PactR} {events : Int → List Int} {ms : List Int} (h : DropsAt w ow P N g L deals events ms) {l : List Nat} (hg : GrowBut w w' l) (hl : ∀ x ∈ l, x < w.heap.size → ow x = -2) (ho : ∀ x, x < w.heap.size → ow' x = ow x) : DropsAt w' ow' P N g L deals events ms :=
  ⟨h.all_.kept hg hl ho, h.nd, h.is_, h.only, h.given, h.fresh, h.few⟩

theorem mk2_inj {i j : Int} (h : mk2 i = mk2 j) : i = j := by unfold mk2 at h; omega

/-- One more. -/
theorem DropsAt.begun {w w' : World} {ow ow' : Nat → Int} {P N N' : Nat} {g : Nat → Int} {L : List Int} {deals : Int → Option PactR} {events : Int → List Int} {ms : List Int} {n : Int} (h : DropsAt w ow P N g L deals events ms) (hn : n = mk2 (g 2 + 1)) (h0 : 0 ≤ g 2) (hf : g 2 + 1 ≤ 1000)
    (hA : AllP w' ow' P N' (upG g 2) (n :: L) (updD deals n (some dR)) (updE events n (events n ++ [1]))) : DropsAt w' ow' P N' (upG g 2) (n :: L) (updD deals n (some dR)) (updE events n (events n ++ [1])) (n :: ms) := by
  have hg2 : upG g 2 2 = g 2 + 1 := by simp [upG]
  have hnot : ∀ x ∈ ms, x ≠ n := fun x hx e => by
    obtain ⟨j, h1, h2, h3⟩ := h.given x hx
    rw [e, hn] at h3
    have := mk2_inj h3
    omega
  have hev : events n = [] := by rw [hn]; exact h.fresh _ (by omega)
  refine ⟨hA, List.nodup_cons.2 ⟨fun hx => hnot n hx rfl, h.nd⟩, fun x hx => ?_, fun x hx => ?_, fun x hx => ?_, fun j hj => ?_, by omega⟩
  · by_cases e : x = n
    · subst e; rw [updD_same, updE_same, hev]; exact ⟨rfl, rfl⟩
    · have hx' : x ∈ ms := by simpa [e] using hx
      simp only [updD, updE, if_neg e]
      exact h.is_ x hx'
  · by_cases e : x = n
    · simp [e]
    · simp only [updD, if_neg e] at hx
      exact List.mem_cons_of_mem _ (h.only x hx)
  · by_cases e : x = n
    · exact ⟨g 2 + 1, by omega, by omega, by rw [e, hn]⟩
    · have hx' : x ∈ ms := by simpa [e] using hx
      obtain ⟨j, h1, h2, h3⟩ := h.given x hx'
      exact ⟨j, h1, by omega, h3⟩
  · have e : ¬ mk2 j = n := fun e => by rw [hn] at e; have := mk2_inj e; omega
    simp only [updE, if_neg e]
    exact h.fresh j (by omega)

/-- One less. -/
theorem DropsAt.ended {w w' : World} {ow ow' : Nat → Int} {P N N' : Nat} {g : Nat → Int} {L : List Int} {deals : Int → Option PactR} {events : Int → List Int} {ms : List Int} {m : Int} {ev : List Int} (h : DropsAt w ow P N g L deals events ms) (hm : m ∈ ms) (hO : OfM w' ow' P N' g L deals events m none ev) :
    DropsAt w' ow' P N' g (nextL L m none) (updD deals m none) (updE events m ev) (ms.erase m) := by
  have hmem : ∀ x, x ∈ ms.erase m ↔ x ≠ m ∧ x ∈ ms := fun x => h.nd.mem_erase_iff
  obtain ⟨jm, hj1, hj2, hjm⟩ := h.given m hm
  refine ⟨hO, h.nd.erase m, fun x hx => ?_, fun x hx => ?_, fun x hx => ?_, fun j hj => ?_, h.few⟩
  · obtain ⟨h1, h2⟩ := (hmem x).1 hx
    simp only [updD, updE, if_neg h1]
    exact h.is_ x h2
  · by_cases e : x = m
    · subst e; rw [updD_same] at hx; cases hx
    · simp only [updD, if_neg e] at hx
      exact (hmem x).2 ⟨e, h.only x hx⟩
  · exact h.given x ((hmem x).1 hx).2
  · have e : ¬ mk2 j = m := fun e => by rw [hjm] at e; have := mk2_inj e; omega
    simp only [updE, if_neg e]
    exact h.fresh j hj

theorem set_perm {ms : List Int} {k : Nat} {m n : Int} (h : ms[k]? = some m) : (ms.set k n).Perm (n :: ms.erase m) := by
  induction ms generalizing k with
  | nil => simp at h
  | cons a t ih =>
    cases k with
    | zero =>
      simp at h
      subst h
      simp
    | succ k =>
      simp only [List.getElem?_cons_succ] at h
      have hmt : m ∈ t := List.mem_of_getElem? h
      simp only [List.set_cons_succ]
      by_cases e : a = m
      · subst e
        simp only [List.erase_cons_head]
        exact ((ih h).cons a).trans ((List.Perm.swap n a _).trans ((List.perm_cons_erase hmt).symm.cons n))
      · rw [List.erase_cons_tail (by simpa using e)]
        exact ((ih h).cons a).trans (List.Perm.swap n a _)

theorem wf_u8n {a : Int} (h : (Lit.int .u8 a).wf = true) : ∃ A : Nat, a = A ∧ A < 256 := by
  simp only [Lit.wf, Bool.and_eq_true, decide_eq_true_eq] at h
  have hm : IntKind.u8.min = 0 := by decide
  have hM : IntKind.u8.max = 255 := by decide
  rw [hm, hM] at h
  exact ⟨a.toNat, by omega, by omega⟩

theorem getD_memI {l : List Int} {i : Nat} (h : i < l.length) : l.getD i 0 ∈ l := by
  rw [List.getD_eq_getElem?_getD, List.getElem?_eq_getElem h]; simp

theorem dealV_zero {w : World} {ow : Nat → Int} {v : Value} (h : DealV w ow zeroD v) : ∃ s7 c7 s8 c8, v = .agg #[.int .i64 0, .int .i64 0, .bool false, .slice s7 0 c7, .slice s8 0 c8] := by
  obtain ⟨v7, v8, rfl, h7, h8⟩ := h
  obtain ⟨s7, c7, rfl⟩ := row_form h7.1
  obtain ⟨s8, c8, rfl⟩ := row_form h8.1
  exact ⟨s7, c7, s8, c8, rfl⟩

theorem one_byte (w : World) (x : Int) : ∀ j, j < ([x] : List Int).length → (w.alloc (.cells #[.int .u8 x] 5)).cell? ⟨w.heap.size, 0 + j, none⟩ = some (.int .u8 (([x] : List Int).getD j 0)) := by
  intro j hj
  have : j = 0 := by simpa using hj
  subst this
  go_simp

/-- One of a row is set. -/
theorem row_set {w : World} {base n cap g k : Nat} {e : TypeId} {xs : List Value} {u : Value} (h : w.ownsRow base e 1 (.slice (some ⟨g, 0, none⟩) n cap) n xs) (hk : k < n) : (w.setCell ⟨g, k, none⟩ u).ownsRow base e 1 (.slice (some ⟨g, 0, none⟩) n cap) n (xs.set k u) ∧ w.frozen? ⟨g, k, none⟩ = false := by
  obtain ⟨hx, h⟩ := h
  rcases h with ⟨h', _⟩ | ⟨g', cap', cur, h', hbase, hg, h1, h2, h3, h4⟩
  · cases h'
  · simp only [Value.slice.injEq, Option.some.injEq, Addr.mk.injEq, and_true, true_and] at h'
    obtain ⟨rfl, rfl⟩ := h'
    refine ⟨⟨by simpa using hx, .inr ⟨g, cap, _, rfl, hbase, heap_setCell_same w g k cur e u hg, h1, h2, ?_, ?_⟩⟩, ?_⟩
    · simpa using h3
    · rw [← h4]
      simp [List.take_set]
    · simp [World.frozen?, hg]

theorem DealAt.other {w w' : World} {ow ow' : Nat → Int} {D : Nat} {d : DealR} {l : List Nat} (h : DealAt w ow D d) (hg : GrowBut w w' l) (hD : D ∉ l) (hl : ∀ x ∈ l, ¬ Typed w x 52 ∧ ¬ Typed w x 55) (ho : ∀ x, x < w.heap.size → ow' x = ow x) : DealAt w' ow' D d := by
  obtain ⟨h0, v7, v8, c0, c1, c2, c3, c4, h7, h8⟩ := h
  exact ⟨by rw [ho D (cell_lt c0)]; exact h0, v7, v8, hg.cell c0 hD, hg.cell c1 hD, hg.cell c2 hD, hg.cell c3 hD, hg.cell c4 hD, h7.other hg (fun x hx => (hl x hx).1) ho, h8.other hg (fun x hx => (hl x hx).2) ho⟩

def dD : DealR := ⟨2, 2, false, [(1, 1)], [(1, 1)]⟩
def dR1 : PactR := ⟨2, 2, [1], 1, false, ⟨0, 0, false, [], []⟩, [], []⟩
def dR2 : PactR := ⟨2, 2, [1], 1, true, dD, [], []⟩

theorem drops_vals2 : mayPc (some dR) 2 [1] = true ∧ kindPc (some dR) 2 [1] = 2 ∧ lastPc (some dR) 2 [1] = true ∧ pieceO (some dR) 2 [1] = some dR1 ∧ mayF (some dR1) 2 5 = -2 ∧ reclO (some dR1) 2 = some dR1 ∧ reclE (some dR1) 2 [1] = [1] ∧ isFull (some dR1) = true ∧ offerO (some dR1) dD [] = some dR2 ∧ offerE (some dR1) [1] = [1, 2] ∧ isSent (some dR2) = false ∧ dropO (some dR2) = some dR2 ∧ dropE (some dR2) [1, 2] = [1, 2] ∧ mayF (some dR2) 2 5 = 0 ∧ reclO (some dR2) 2 = none ∧ reclE (some dR2) 2 [1, 2] = [1, 2, 5] := ⟨rfl, rfl, rfl, rfl, rfl, rfl, rfl, rfl, rfl, rfl, rfl, rfl, rfl, rfl, rfl, rfl⟩

theorem drops_vals : isSent (some dR) = true ∧ dropO (some dR) = none ∧ dropE (some dR) [1] = [1, 7] ∧ isSent none = false ∧ dropO none = none ∧ dropE none [1, 7] = [1, 7] := ⟨rfl, rfl, rfl, rfl, rfl, rfl⟩

set_option maxRecDepth 100000 in
set_option maxHeartbeats 8000000 in
theorem pactDrops_walk (zs : List Int) (p : Option Addr) (cap : Nat) (w : World) (hz : ∀ i, i < zs.length → ∃ a, p = some a ∧ a.block < w.heap.size ∧ w.cell? (a.add i) = some (.int .u8 (zs.getD i 0))) (hzw : ∀ n ∈ zs, (Lit.int .u8 n).wf = true) :
    Calls Try.prog 5 #[.slice p zs.length cap] w fun e w' => e = .returned (.bool true) ∧ w.grownBy w' none := by
  obtain ⟨i0, hi, hz0, hz1, hz2⟩ := info_parts infoU
  by_cases h20 : 20 < zs.length
  · have h1 : (20 : Int) < (zs.length : Int) := by omega
    go_enter Try.func5, Try.ntmps5
    go_wp2_with (first
      | (go_at_call 32; (refine (begunPact_calls w).mono ?_; rintro e wb ⟨rfl, hgb⟩))
      | fail)
    go_ret
    exact ⟨rfl, hgb.keepAll⟩
  have h1 : ¬ (20 : Int) < (zs.length : Int) := by omega
  go_enter Try.func5, Try.ntmps5
  go_wp2_with (first
    | (go_at_call 32; (refine (begunPact_calls w).mono ?_; rintro e wb ⟨rfl, hgb⟩))
    | (go_at_call 33; (refine (new_any wb).mono ?_; rintro e w1 ⟨P, ow1, rfl, hA1, hlo1, hg1⟩))
    | fail)
  have hgw : GrowBut w w1 [] := hgb.trans hg1
  have hlow : ∀ x, x < w.heap.size → ow1 x = -2 := fun x hx => hlo1 x (Nat.lt_of_lt_of_le hx hgb.size)
  have hD1 : DropsAt w1 ow1 P 0 (fun _ => 0) [] (fun _ => none) (fun _ => []) [] := by
    refine ⟨hA1, List.nodup_nil, fun x hx => ?_, fun x hx => ?_, fun x hx => ?_, fun j _ => rfl, by omega⟩
    · cases hx
    · cases hx
    · cases hx
  clear hgb hg1 hlo1 hA1
  go_loopw [4, 5] (fun v4 v5 wx => ∃ (j : Nat) (ow : Nat → Int) (g : Nat → Int) (L : List Int) (deals : Int → Option PactR) (events : Int → List Int) (ms : List Int), v5 = .int .i64 j ∧ j ≤ 4 ∧ ms.length = j ∧ g 2 = j ∧ DropsAt wx ow P (2 * j) g L deals events ms ∧ RowOf wx ow (-2) 33 1 v4 j (ms.map (Value.int .u64)) ∧ (∀ x, v4.ownBlock = some x → w.heap.size ≤ x) ∧ GrowBut w wx [] ∧ ∀ x, x < w.heap.size → ow x = -2) (fun _ v5 _ => 4 - intOf v5)
  case atStart => exact ⟨0, ow1, _, _, _, _, [], rfl, by omega, rfl, rfl, hD1, nilRow _ _ _ _, fun x hx => by (cases hx), hgw, hlow⟩
  case round =>
    obtain ⟨j, ow, g, L, deals, events, ms, rfl, hj, hml, hg2, hD, hrow, hrlo, hG, hlo⟩ := hrel
    by_cases hlt : j < 4
    · have hlt' : (j : Int) < 4 := by omega
      have hcnt := hD.count
      have hBg := begin_new hD.all_ 2 2 1 (by omega) (by omega) (by omega) (by omega) (by omega) (by omega) (by simp only [Int.cast_ofNat_Int]; omega) (mk2 (j + 1)) (by unfold mk2; simp only [Int.cast_ofNat_Int]; omega) (by rw [hD.fresh _ (by omega)]; simp)
      go_wp2_with (first
        | (go_at_call 34; (refine hBg.mono ?_; clear hBg; rintro e w2 ⟨ow2, rfl, hA2, hk2⟩; have hrow2 := hk2.row hrow))
        | (at_builtin; (refine wpList_append_own_at _ rfl _ _ 74 rfl 0 33 i0 (.int .u64 0) 1 8 Try.underlying74 hi hz0 hz1 hz2 rfl (by decide) _ _ _ rfl (hrow2.1.alloc _) ⟨w2.heap.size, 0, none⟩ 1 1 [.int .u64 (mk2 ((j : Int) + 1))] rfl rfl (cell_one_new _ _ _) (by simp [Value.oneCell']) (by unfold maxLen; omega) (by omega) (by omega) ?_; intro v' w4 hown4 hg4 hnil4 hat4; go_frame))
        | fail)
      have hD2 := hD.begun (n := mk2 (j + 1)) (by rw [hg2]) (by omega) (by omega) hA2
      have hg4' := (GrowBut.alloc w2 (.cells #[.int .u64 (mk2 ((j : Int) + 1))] 33) _).trans (GrowBut.of_rowZ (o := u4.ownBlock) hg4)
      have hown2 : ∀ x ∈ u4.ownBlock.toList, ow2 x = -2 := fun x hx => hrow2.2 x (by simpa using hx)
      have hlo2 : ∀ x, x < w.heap.size → ow2 x = -2 := fun x hx => by rw [hk2.old (Nat.lt_of_lt_of_le hx hG.size)]; exact hlo x hx
      have hsz2 : w.heap.size ≤ w2.heap.size := Nat.le_trans hG.size hk2.size
      have hD4 := (hD2.kept (ow' := owN ow2 w2 (-2)) hg4' (fun x hx _ => hown2 x hx) owN_old).permute (ms' := ms ++ [mk2 (j + 1)]) List.perm_append_comm
      have hG4 : GrowBut w w4 [] := (hk2.grow hG hlo).from hg4' (fun x hx => .inr (hrlo x (by simpa using hx)))
      have he21 : 2 * j + 2 = 2 * (j + 1) := by omega
      have hsa : (w2.alloc (.cells #[.int .u64 (mk2 ((j : Int) + 1))] 33)).heap.size = w2.heap.size + 1 := by simp
      refine ⟨⟨j + 1, owN ow2 w2 (-2), upG g 2, _, _, _, ms ++ [mk2 (j + 1)], by simp, by omega, by simp [hml], by simp [upG, hg2], he21 ▸ hD4, ⟨by rw [List.map_append]; exact hown4, fun x hx => ?_⟩, fun x hx => ?_, hG4, fun x hx => by rw [owN_old _ (by omega)]; exact hlo2 x hx⟩, by simp [intOf]; omega⟩
      · rcases hat4 with h5 | h5
        · rw [h5] at hx
          rw [owN_old _ (hrow2.1.lt x hx).2]
          exact hrow2.2 x hx
        · rw [h5] at hx
          exact owN_new (by simp at hx; omega)
      · rcases hat4 with h5 | h5
        · rw [h5] at hx; exact hrlo x hx
        · rw [h5] at hx; simp at hx; omega
    · have hge : ¬ (j : Int) < 4 := by omega
      have hj4 : j = 4 := by omega
      rw [hj4] at hrow hml hD hg2
      obtain ⟨gM, cM, hvM, _, hgMl⟩ := row_block hrow.1 (by omega)
      rw [hvM] at hrow hrlo
      have hgM := hrow.2 gM rfl
      have hgMlo := hrlo gM rfl
      have hG3 := ((GrowBut.alloc wr (.cells #[.int .i64 1, .int .i64 1] 52) []).trans (GrowBut.alloc _ (.cells #[.int .i64 1, .int .i64 1] 55) [])).trans (GrowBut.alloc _ (.cells #[.int .i64 2, .int .i64 2, .bool false, .slice (some ⟨wr.heap.size, 0, none⟩) 1 1, .slice (some ⟨wr.heap.size + 1, 0, none⟩) 1 1] 58) [])
      have hDl := dealLit wr ow 2 2 1 1 1 1 (Nat.le_refl _)
      have hD3 := hD.kept hG3 (fun x hx => by cases hx) (owN_old (m := -2))
      have hrow3 := (Kept.quiet (ow := ow) hG3).row hrow
      have hG30 := hG.trans hG3
      have hlo3 : ∀ x, x < w.heap.size → owN ow wr (-2) x = -2 := fun x hx => by rw [owN_old _ (Nat.lt_of_lt_of_le hx hG.size)]; exact hlo x hx
      have hgM3 : owN ow wr (-2) gM = -2 := by rw [owN_old _ hgMl]; exact hgM
      go_wp2_with fail
      clear hD hrow hlo hG3 hrlo hgM
      have hDl' : DealAt _ _ (wr.heap.size + 1 + 1) dD := hDl
      clear hDl
      have hDlt : wr.heap.size + 1 + 1 < (((wr.alloc (.cells #[.int .i64 1, .int .i64 1] 52)).alloc (.cells #[.int .i64 1, .int .i64 1] 55)).alloc (.cells #[.int .i64 2, .int .i64 2, .bool false, .slice (some ⟨wr.heap.size, 0, none⟩) 1 1, .slice (some ⟨wr.heap.size + 1, 0, none⟩) 1 1] 58)).heap.size := by simp
      have hgD : wr.heap.size + 1 + 1 ≠ gM := by omega
      generalize wr.heap.size + 1 + 1 = D at hDl' hDlt hgD ⊢
      go_loopw [9] (fun v9 wx => ∃ (i : Nat) (ow : Nat → Int) (g : Nat → Int) (L : List Int) (deals : Int → Option PactR) (events : Int → List Int) (ms : List Int), v9 = .int .i64 i ∧ i ≤ zs.length ∧ ms.length = 4 ∧ g 2 = 4 + i ∧ DropsAt wx ow P (8 + 20 * i) g L deals events ms ∧ RowOf wx ow (-2) 33 1 (.slice (some ⟨gM, 0, none⟩) 4 cM) 4 (ms.map (Value.int .u64)) ∧ DealAt wx ow D dD ∧ GrowBut w wx [] ∧ (∀ x, x < w.heap.size → ow x = -2)) (fun v9 _ => zs.length - intOf v9)
      case atStart => exact ⟨0, _, g, _, _, _, ms, rfl, by omega, hml, by omega, by simpa using hD3, hrow3, hDl', hG30, hlo3⟩
      case round =>
        clear hD3 hrow3 hDl' hG30 hlo3 hml hg2
        obtain ⟨i, ow, g, L, deals, events, ms, rfl, hi', hml, hg2, hD, hrow, hDl, hG, hlo⟩ := hrel
        by_cases hlz : i < zs.length
        · have hlz' : (i : Int) < (zs.length : Int) := by omega
          obtain ⟨az, rfl, hazb, hcz⟩ := hz i hlz
          have hczr := hG.cell hcz (by simp)
          obtain ⟨Z, hZ, hZ2⟩ := wf_u8n (hzw _ (getD_memI hlz))
          rw [hZ] at hczr
          obtain ⟨k, hk⟩ : ∃ k, k = Z / 2 % 4 := ⟨_, rfl⟩
          have hkl : k < 4 := by omega
          have hmk : ms[k]? = some (ms.getD k 0) := by rw [List.getD_eq_getElem?_getD, List.getElem?_eq_getElem (by omega)]; rfl
          have hmin : ms.getD k 0 ∈ ms := List.mem_of_getElem? hmk
          obtain ⟨hdm, hem⟩ := hD.is_ _ hmin
          obtain ⟨jm, hj1, hj2, hjm⟩ := hD.given _ hmin
          generalize hmm : ms.getD k 0 = m at hmk hmin hdm hem hjm
          have hmw : (Lit.int .u64 m).wf = true := by rw [hjm]; exact mk2_wf (by omega) (by have := hD.few; omega)
          have hm0 : 0 ≤ m := by rw [hjm]; unfold mk2; omega
          have hjm' := hjm.symm
          clear hjm
          have hcm := hrow.1.cellAt k (by omega)
          rw [List.getElem?_map, hmk] at hcm
          simp only [Option.map_some] at hcm
          have hB := begin_none hD.all_ 2 2 1 (by omega) (by omega) (by omega) (by omega) (by omega) (by omega) (by have := hD.count; simp only [Int.cast_ofNat_Int] at *; omega)
          have hnd := hD.all_.nodup
          have hO := hD.all_.ofM m
          rw [hdm, hem] at hO
          obtain ⟨n, hn⟩ : ∃ n, mk2 (4 + (i : Int) + 1) = n := ⟨_, rfl⟩
          have hn' : n = mk2 (4 + (i : Int) + 1) := hn.symm
          have hx3i : ms[3]? = some (ms.getD 3 0) := by rw [List.getD_eq_getElem?_getD, List.getElem?_eq_getElem (by omega)]; rfl
          obtain ⟨j3, h31, h32, h33⟩ := hD.given _ (List.mem_of_getElem? hx3i)
          have hc3 := hrow.1.cellAt 3 (by omega)
          rw [List.getElem?_map, hx3i] at hc3
          simp only [Option.map_some] at hc3
          have hmn : ¬ n ≤ m := by rw [hn', ← hjm']; unfold mk2; omega
          have hnwf : (Lit.int .u64 n).wf = true := by rw [hn']; exact mk2_wf (by omega) (by omega)
          have h3b : 0 ≤ ms.getD 3 0 + 1 ∧ ms.getD 3 0 + 1 ≤ 18446744073709551615 := by rw [h33]; unfold mk2; have := hD.few; omega
          clear h33
          generalize ms.getD 3 0 = x3 at hc3 h3b hx3i
          have hw3 := IntWalk.u64_in (x3 + 1) h3b
          have hTail : ∀ (w5 : World) (ow5 : Nat → Int) (N5 : Nat) (ev : List Int), N5 ≤ 900 → OfM w5 ow5 P N5 g L deals events m none ev → Calls Try.prog 34 #[.pointer (some ⟨P, 0, none⟩), .int .i64 2, .int .i64 2, .int .i64 1] w5 fun e w' => ∃ (ow' : Nat → Int) (L' : List Int) (deals' : Int → Option PactR) (events' : Int → List Int), e = .returned (.tuple #[.int .u64 n, .int .i64 0]) ∧
              DropsAt w' ow' P (N5 + 2) (upG g 2) L' deals' events' (ms.set k n) ∧ Kept w5 w' ow5 ow' := fun w5 ow5 N5 ev hN5 hO5 => by
            have hE5 := hD.ended hmin hO5
            have hcnt := hE5.count
            rw [List.length_erase_of_mem hmin, hml] at hcnt
            have hfr : updE events m ev n = [] := by
              rw [hn']
              exact hE5.fresh _ (by omega)
            refine (begin_new hE5.all_ 2 2 1 (by omega) (by omega) (by omega) (by omega) (by omega) hN5 (by simp only [Int.cast_ofNat_Int]; omega) n (by rw [hn']; unfold mk2; simp only [Int.cast_ofNat_Int]; omega) (by rw [hfr]; simp)).mono ?_
            rintro e w' ⟨ow', rfl, hA', hk'⟩
            exact ⟨ow', _, _, _, rfl, (hE5.begun (by rw [hn', hg2]) (by omega) (by omega) hA').permute (set_perm hmk), hk'⟩
          clear hn hn' hjm'
          rcases Nat.mod_two_eq_zero_or_one Z with hpar | hpar
          · have hz2 : (Z : Int) % 2 = 0 := by omega
            have hkk : ((Z : Int) / 2) % 4 = k := by omega
            clear hk hpar
            have hsz := hG.size
            go_wp2_with (first
              | (go_at_call 34; (refine hB.mono ?_; clear hB; rintro e w2 ⟨rfl, hg2'⟩; have hk2 := Kept.quiet (ow := ow) hg2'; have hcz2 := hg2'.cell hczr (by simp); have hcm2 := hg2'.cell hcm (by simp); have hO2 := hO.quiet hg2'; have hrow2 := hk2.row hrow; have hDl2 := hDl.kept hk2; have hDr := drop_of hnd hO2 hmw (by omega) (by simp); rw [drops_vals.1, drops_vals.2.1, drops_vals.2.2.1] at hDr))
              | (go_at_call 40; (refine hDr.mono ?_; clear hDr; rintro e w3 ⟨ow3, rfl, hO3, hk3⟩; have hDr2 := drop_of hnd hO3 hmw (by omega) (by simp); rw [drops_vals.2.2.2.1, drops_vals.2.2.2.2.1, drops_vals.2.2.2.2.2] at hDr2; have hDl3 := hDl2.kept hk3; have hrow3 := hk3.row hrow2))
              | (go_at_call 40; (refine hDr2.mono ?_; clear hDr2; rintro e w4 ⟨ow4, rfl, hO4, hk4⟩; have hDl4 := hDl3.kept hk4; have hrow4 := hk4.row hrow3; have hEv := events_of hO4 hmw hm0 (by simp)))
              | (go_at_call 42; (refine hEv.mono ?_; clear hEv; rintro e w5 ⟨ve, rfl, hev, hg5⟩; obtain ⟨ge, ce, rfl, _, _⟩ := row_block hev (by simp); have hk5 := Kept.quiet (ow := ow4) hg5; have hDl5 := hDl4.kept hk5; have hrow5 := hk5.row hrow4; have hO5 := hO4.quiet hg5; have hev0 := hev.cellAt 0 (by simp)))
              | (go_at_call 34; (refine (hTail w5 _ _ _ (by omega) hO5).mono ?_; clear hTail; rintro e w6 ⟨ow6, L', deals', events', rfl, hD6, hk6⟩; have hDl6 := hDl5.kept hk6; have hrow6 := hk6.row hrow5; have hc36 := hrow6.1.cellAt 3 (by omega); rw [List.getElem?_map, hx3i] at hc36; simp only [Option.map_some] at hc36; obtain ⟨hrs, hfz⟩ := row_set (u := .int .u64 n) hrow6.1 hkl; have hck6 := hrow6.1.cellAt k (by omega); rw [List.getElem?_map, hmk] at hck6; simp only [Option.map_some] at hck6))
              | fail)
            all_goals
              have hgs := GrowBut.setCell w6 ⟨gM, k, none⟩ (.int .u64 n)
              have hg6 := hrow6.2 gM rfl
              have hty : Typed w6 gM 33 := Typed.of_row hrow6.1 rfl
              have hD7 := hD6.kept (ow' := ow6) hgs (fun x hx _ => by simp at hx; rw [hx]; exact hg6) (fun _ _ => rfl)
              have hDl7 := hDl6.other (ow' := ow6) hgs (by simpa using hgD) (fun x hx => by simp at hx; rw [hx]; exact ⟨fun h => Typed.ne hty h (by decide) rfl, fun h => Typed.ne hty h (by decide) rfl⟩) (fun _ _ => rfl)
              have hkA := ((((hk2.trans hk3).trans hk4).trans hk5).trans hk6)
              have hG7 := (hkA.grow hG hlo).from hgs (fun x hx => .inr (by simp at hx; rw [hx]; exact hgMlo))
              have hlo7 : ∀ x, x < w.heap.size → ow6 x = -2 := fun x hx => by rw [hkA.old (Nat.lt_of_lt_of_le hx hG.size)]; exact hlo x hx
              have hrow7 : RowOf (w6.setCell ⟨gM, k, none⟩ (.int .u64 n)) ow6 (-2) 33 1 (.slice (some ⟨gM, 0, none⟩) 4 cM) 4 ((ms.set k n).map (Value.int .u64)) := ⟨by rw [List.map_set]; exact hrs, hrow6.2⟩
              have hD8 : DropsAt (w6.setCell ⟨gM, k, none⟩ (.int .u64 n)) ow6 P (8 + 20 * (i + 1)) (upG g 2) L' deals' events' (ms.set k n) := ⟨hD7.all_.more (by omega), hD7.nd, hD7.is_, hD7.only, hD7.given, hD7.fresh, hD7.few⟩
              have hfin : ∀ u : Int, u = n → ∃ (i_1 : Nat) (ow : Nat → Int) (g : Nat → Int) (L : List Int) (deals : Int → Option PactR) (events : Int → List Int) (ms : List Int), Value.int .i64 ((i : Int) + 1) = .int .i64 i_1 ∧ i_1 ≤ zs.length ∧ ms.length = 4 ∧ g 2 = 4 + (i_1 : Int) ∧ DropsAt (w6.setCell ⟨gM, k, none⟩ (.int .u64 u)) ow P (8 + 20 * i_1) g L deals events ms ∧ RowOf (w6.setCell ⟨gM, k, none⟩ (.int .u64 u)) ow (-2) 33 1 (.slice (some ⟨gM, 0, none⟩) 4 cM) 4 (ms.map (Value.int .u64)) ∧ DealAt (w6.setCell ⟨gM, k, none⟩ (.int .u64 u)) ow D dD ∧ GrowBut w (w6.setCell ⟨gM, k, none⟩ (.int .u64 u)) [] ∧ (∀ x, x < w.heap.size → ow x = -2) := fun u hu => by
                subst hu
                exact ⟨i + 1, ow6, upG g 2, L', deals', events', ms.set k u, by simp, by omega, by simpa using hml, by simp [upG, hg2]; omega, hD8, hrow7, hDl7, hG7, hlo7⟩
              have hms : zs.length - intOf (.int .i64 ((i : Int) + 1)) < zs.length - intOf (.int .i64 (i : Int)) := by simp [intOf]; omega
              first
                | exact ⟨hfin _ rfl, hms⟩
                | exact ⟨hfin _ (by omega), hms⟩
          · have hz2 : (Z : Int) % 2 = 1 := by omega
            have hkk : ((Z : Int) / 2) % 4 = k := by omega
            clear hk hpar
            have hsz := hG.size
            have hwf2 : (Lit.int .i64 2).wf = true := by decide
            have hK := fun (w : World) (ow : Nat → Int) (o : Obj) => Kept.quiet (ow := ow) (GrowBut.alloc w o [])
            go_wp2_with (first
              | (go_at_call 34; (refine hB.mono ?_; clear hB; rintro e w2 ⟨rfl, hg2'⟩; have hk2 := Kept.quiet (ow := ow) hg2'; have hcz2 := hg2'.cell hczr (by simp); have hcm2 := hg2'.cell hcm (by simp); have hO2 := hO.quiet hg2'; have hrow2 := hk2.row hrow; have hDl2 := hDl.kept hk2; have hPc := piece_of hnd (hO2.quiet (GrowBut.alloc w2 (.cells #[.int .u8 1] 5) [])) 2 hmw (some ⟨w2.heap.size, 0, none⟩) 1 [1] (by simp) (fun _ => ⟨w2.heap.size, 0, rfl, one_byte w2 1⟩); rw [drops_vals2.1, drops_vals2.2.1, drops_vals2.2.2.1, drops_vals2.2.2.2.1] at hPc))
              | (go_at_call 35; (refine hPc.mono ?_; clear hPc; rintro e w3 ⟨ow3, vb, rfl, _, hO3, hk3'⟩; have hk3 := (hK w2 _ _).trans hk3'; clear hk3'; have hDl3 := hDl2.kept hk3; have hrow3 := hk3.row hrow2; have hRc := recl_of hnd hO3 2 hmw hwf2 (by omega) (by simp); rw [drops_vals2.2.2.2.2.1, drops_vals2.2.2.2.2.2.1, drops_vals2.2.2.2.2.2.2.1] at hRc))
              | (go_at_call 39; (refine hRc.mono ?_; clear hRc; rintro e wa ⟨owa, vd, vf, rfl, hqd, _, hOa, hka⟩; obtain ⟨qs7, qc7, qs8, qc8, rfl⟩ := dealV_zero hqd; have hDla := (hDl3.kept hka).kept (hK wa owa (.cells #[.int .i64 0, .int .i64 0, .bool false, .slice qs7 0 qc7, .slice qs8 0 qc8] 58)); have hrowa := hka.row hrow3; obtain ⟨hDo, v7, v8, d0, d1, d2, d3, d4, r7, r8⟩ := hDla; have hOf := offer_of hnd (hOa.quiet (GrowBut.alloc wa (.cells #[.int .i64 0, .int .i64 0, .bool false, .slice qs7 0 qc7, .slice qs8 0 qc8] 58) [])) hmw (by omega) (by simp) dD [] (v7 := v7) (v8 := v8) (v9 := .slice none 0 0) r7.1 r8.1 (World.ownsRow_nil _ _ _ _) (by decide) (by decide) (by decide); rw [drops_vals2.2.2.2.2.2.2.2.1, drops_vals2.2.2.2.2.2.2.2.2.1, drops_vals2.2.2.2.2.2.2.2.2.2.1] at hOf))
              | (go_at_call 36; (refine hOf.mono ?_; clear hOf; rintro e wb ⟨owb, rfl, hOb, hkb'⟩; have hkb := (hK wa owa _).trans hkb'; clear hkb'; have hDlb := ((hDl3.kept hka).kept hkb); have hrowb := hkb.row hrowa; have hDr := drop_of hnd hOb hmw (by omega) (by simp); rw [drops_vals2.2.2.2.2.2.2.2.2.2.2.1, drops_vals2.2.2.2.2.2.2.2.2.2.2.2.1, drops_vals2.2.2.2.2.2.2.2.2.2.2.2.2.1] at hDr))
              | (go_at_call 40; (refine hDr.mono ?_; clear hDr; rintro e wc ⟨owc, rfl, hOc, hkc⟩; have hDlc := hDlb.kept hkc; have hrowc := hkc.row hrowb; have hRd := recl_of hnd hOc 2 hmw hwf2 (by omega) (by simp); rw [drops_vals2.2.2.2.2.2.2.2.2.2.2.2.2.2.1, drops_vals2.2.2.2.2.2.2.2.2.2.2.2.2.2.2.1, drops_vals2.2.2.2.2.2.2.2.2.2.2.2.2.2.2.2] at hRd))
              | (go_at_call 39; (refine hRd.mono ?_; clear hRd; rintro e w4 ⟨ow4, vd2, vf2, rfl, _, _, hO4, hk4⟩; have hDl4 := hDlc.kept hk4; have hrow4 := hk4.row hrowc; have hEv := events_of hO4 hmw hm0 (by simp)))
              | (go_at_call 42; (refine hEv.mono ?_; clear hEv; rintro e w5 ⟨ve, rfl, hev, hg5⟩; obtain ⟨ge, ce, rfl, _, _⟩ := row_block hev (by simp); have hk5 := Kept.quiet (ow := ow4) hg5; have hDl5 := hDl4.kept hk5; have hrow5 := hk5.row hrow4; have hO5 := hO4.quiet hg5; have hev0 := hev.cellAt 0 (by simp)))
              | (go_at_call 34; (refine (hTail w5 _ _ _ (by omega) hO5).mono ?_; clear hTail; rintro e w6 ⟨ow6, L', deals', events', rfl, hD6, hk6⟩; have hDl6 := hDl5.kept hk6; have hrow6 := hk6.row hrow5; have hc36 := hrow6.1.cellAt 3 (by omega); rw [List.getElem?_map, hx3i] at hc36; simp only [Option.map_some] at hc36; obtain ⟨hrs, hfz⟩ := row_set (u := .int .u64 n) hrow6.1 hkl; have hck6 := hrow6.1.cellAt k (by omega); rw [List.getElem?_map, hmk] at hck6; simp only [Option.map_some] at hck6))
              | fail)
            all_goals
              have hgs := GrowBut.setCell w6 ⟨gM, k, none⟩ (.int .u64 n)
              have hg6 := hrow6.2 gM rfl
              have hty : Typed w6 gM 33 := Typed.of_row hrow6.1 rfl
              have hD7 := hD6.kept (ow' := ow6) hgs (fun x hx _ => by simp at hx; rw [hx]; exact hg6) (fun _ _ => rfl)
              have hDl7 := hDl6.other (ow' := ow6) hgs (by simpa using hgD) (fun x hx => by simp at hx; rw [hx]; exact ⟨fun h => Typed.ne hty h (by decide) rfl, fun h => Typed.ne hty h (by decide) rfl⟩) (fun _ _ => rfl)
              have hkA := (((((((hk2.trans hk3).trans hka).trans hkb).trans hkc).trans hk4).trans hk5).trans hk6)
              have hG7 := (hkA.grow hG hlo).from hgs (fun x hx => .inr (by simp at hx; rw [hx]; exact hgMlo))
              have hlo7 : ∀ x, x < w.heap.size → ow6 x = -2 := fun x hx => by rw [hkA.old (Nat.lt_of_lt_of_le hx hG.size)]; exact hlo x hx
              have hrow7 : RowOf (w6.setCell ⟨gM, k, none⟩ (.int .u64 n)) ow6 (-2) 33 1 (.slice (some ⟨gM, 0, none⟩) 4 cM) 4 ((ms.set k n).map (Value.int .u64)) := ⟨by rw [List.map_set]; exact hrs, hrow6.2⟩
              have hD8 : DropsAt (w6.setCell ⟨gM, k, none⟩ (.int .u64 n)) ow6 P (8 + 20 * (i + 1)) (upG g 2) L' deals' events' (ms.set k n) := ⟨hD7.all_.more (by omega), hD7.nd, hD7.is_, hD7.only, hD7.given, hD7.fresh, hD7.few⟩
              have hfin : ∀ u : Int, u = n → ∃ (i_1 : Nat) (ow : Nat → Int) (g : Nat → Int) (L : List Int) (deals : Int → Option PactR) (events : Int → List Int) (ms : List Int), Value.int .i64 ((i : Int) + 1) = .int .i64 i_1 ∧ i_1 ≤ zs.length ∧ ms.length = 4 ∧ g 2 = 4 + (i_1 : Int) ∧ DropsAt (w6.setCell ⟨gM, k, none⟩ (.int .u64 u)) ow P (8 + 20 * i_1) g L deals events ms ∧ RowOf (w6.setCell ⟨gM, k, none⟩ (.int .u64 u)) ow (-2) 33 1 (.slice (some ⟨gM, 0, none⟩) 4 cM) 4 (ms.map (Value.int .u64)) ∧ DealAt (w6.setCell ⟨gM, k, none⟩ (.int .u64 u)) ow D dD ∧ GrowBut w (w6.setCell ⟨gM, k, none⟩ (.int .u64 u)) [] ∧ (∀ x, x < w.heap.size → ow x = -2) := fun u hu => by
                subst hu
                exact ⟨i + 1, ow6, upG g 2, L', deals', events', ms.set k u, by simp, by omega, by simpa using hml, by simp [upG, hg2]; omega, hD8, hrow7, hDl7, hG7, hlo7⟩
              have hms : zs.length - intOf (.int .i64 ((i : Int) + 1)) < zs.length - intOf (.int .i64 (i : Int)) := by simp [intOf]; omega
              first
                | exact ⟨hfin _ rfl, hms⟩
                | exact ⟨hfin _ (by omega), hms⟩
        · have hge : ¬ (i : Int) < (zs.length : Int) := by omega
          have hG0 := hG.keepAll
          go_wp2_with fail
          go_ret
          exact ⟨rfl, hG0⟩

end Go.Proofs.Ytcoedmiichppdaa


/-
  PactPaths: the plain law.
-/
namespace Go.Proofs.Ytcoedmiichppdaa
open Go Go.RowKit Go.Maps Go.Am
set_option linter.unusedVariables false
set_option linter.unusedSimpArgs false

def pRs (what : Int) : List (Int × Int) := if what = 3 then [(0, 1)] else [(0, 1), (1, 2), (2, 3), (3, 4)]
def pD (what : Int) : DealR := ⟨what, 5, false, pRs what, [(1, 1)]⟩
def pS (what : Int) (bs : List Int) : PactR := ⟨5, what, bs, 2, false, zeroD, [], []⟩
def pO (what : Int) (ts : List Int) : PactR := ⟨5, what, [1, 1], 2, true, pD what, [9], ts⟩

/-- How many of the first j. -/
def cntB (f : Nat → Bool) (j : Nat) : Nat := ((List.range j).filter f).length

theorem cntB_succ (f : Nat → Bool) (j : Nat) : cntB f (j + 1) = cntB f j + (if f j = true then 1 else 0) := by
  unfold cntB
  rw [List.range_succ, List.filter_append, List.length_append]
  cases h : f j <;> simp [h]

theorem cntB_le (f : Nat → Bool) (j : Nat) : cntB f j ≤ j := by
  unfold cntB
  exact Nat.le_trans (List.length_filter_le _ _) (by simp)

/-- What holds of a deal, its events, the state, the bytes, and who took it. -/
structure PInv (what : Int) (o : Option PactR) (ev : List Int) (st : Int) (bt : Nat) (f : Nat → Bool) : Prop where
  bt2 : bt ≤ 2
  alt : (st = 0 ∧ o = none ∧ (∀ k, k < 4 → f k = false) ∧ pathN ev = some (0, 0)) ∨
    (st = 1 ∧ o = some (pS what (List.replicate bt 1)) ∧ (∀ k, k < 4 → f k = false) ∧ pathN ev = some (1, 0)) ∨
    (st = 2 ∧ ∃ ts, o = some (pO what ts) ∧ ts.Nodup ∧ (∀ k : Nat, k < 4 → (f k = true ↔ (k : Int) ∈ ts)) ∧ (∀ x ∈ ts, ∃ k : Nat, k < 4 ∧ x = k) ∧ (what = 3 → ts = []) ∧ pathN ev = some (2, ts.length))

theorem cnt_none {f : Nat → Bool} (h : ∀ k, k < 4 → f k = false) : cntB f 4 = 0 := by
  unfold cntB
  rw [List.filter_eq_nil_iff.2 (fun k hk => by rw [h k (by simpa using hk)]; simp)]
  rfl

theorem cnt_takers {f : Nat → Bool} {ts : List Int} (hn : ts.Nodup) (hf : ∀ k : Nat, k < 4 → (f k = true ↔ (k : Int) ∈ ts)) (hs : ∀ x ∈ ts, ∃ k : Nat, k < 4 ∧ x = k) : cntB f 4 = ts.length := by
  have hp : ts.Perm (((List.range 4).filter f).map fun k : Nat => (k : Int)) := by
    refine (List.perm_ext_iff_of_nodup hn ?_).2 fun x => ?_
    · refine List.Pairwise.map (fun k : Nat => (k : Int)) (fun a b h e => h (by omega)) (List.nodup_range.filter f)
    · rw [List.mem_map]
      constructor
      · intro hx
        obtain ⟨k, hk, rfl⟩ := hs x hx
        exact ⟨k, by simp [hk, (hf k hk).2 hx], rfl⟩
      · rintro ⟨k, hk, rfl⟩
        simp only [List.mem_filter, List.mem_range] at hk
        exact (hf k hk.1).1 hk.2
  rw [hp.length_eq]
  simp [cntB]

theorem PInv.path {what : Int} {o : Option PactR} {ev : List Int} {st : Int} {bt : Nat} {f : Nat → Bool} (h : PInv what o ev st bt f) : pathN ev = some (st, cntB f 4) := by
  rcases h.alt with ⟨rfl, _, h1, h2⟩ | ⟨rfl, _, h1, h2⟩ | ⟨rfl, ts, _, h1, h2, h3, _, h4⟩
  · rw [cnt_none h1]; exact h2
  · rw [cnt_none h1]; exact h2
  · rw [cnt_takers h1 h2 h3]; exact h4

theorem path_on {ev : List Int} {x y : Int × Nat} {e : Int} (h : pathN ev = some x) (hy : onN x e = some y) : pathN (ev ++ [e]) = some y := by
  rw [pathN_snoc, h]; exact hy

/-- Set. -/
def upB (f : Nat → Bool) (k : Nat) (b : Bool) : Nat → Bool := fun x => if x = k then b else f x

theorem rep2 : List.replicate 2 (1 : Int) = [1, 1] := rfl

/-! ### Each deed -/

section
variable {what : Int} {ev : List Int} {bt : Nat} {f : Nat → Bool} {ts : List Int}

theorem p_init (what : Int) : PInv what (some (pS what [])) [1] 1 0 (fun _ => false) := ⟨by omega, .inr (.inl ⟨rfl, rfl, fun _ _ => rfl, rfl⟩)⟩

theorem p_piece (hb : bt < 2) (hf : ∀ k, k < 4 → f k = false) (hp : pathN ev = some (1, 0)) : PInv what (some (pS what (List.replicate (bt + 1) 1))) ev 1 (bt + 1) f := ⟨by omega, .inr (.inl ⟨rfl, rfl, hf, hp⟩)⟩

theorem p_offer (hf : ∀ k, k < 4 → f k = false) (hp : pathN ev = some (1, 0)) : PInv what (some (pO what [])) (ev ++ [2]) 2 2 f :=
  ⟨by omega, .inr (.inr ⟨rfl, [], rfl, List.nodup_nil, fun k hk => (by rw [hf k hk]; simp), fun x hx => (by cases hx), fun _ => rfl, path_on hp rfl⟩)⟩

theorem p_take (hb : bt ≤ 2) {who : Nat} (hw : who < 4) (h3 : what ≠ 3) (hn : ts.Nodup) (hf : ∀ k : Nat, k < 4 → (f k = true ↔ (k : Int) ∈ ts)) (hs : ∀ x ∈ ts, ∃ k : Nat, k < 4 ∧ x = k) (hp : pathN ev = some (2, ts.length)) (hno : f who = false) : PInv what (some (pO what (ts ++ [(who : Int)]))) (ev ++ [3]) 2 bt (upB f who true) := by
  have hnot : (who : Int) ∉ ts := fun hx => by rw [(hf who hw).2 hx] at hno; cases hno
  refine ⟨hb, .inr (.inr ⟨rfl, _, rfl, ?_, fun k hk => ?_, fun x hx => ?_, fun e => absurd e h3, path_on hp (by rw [List.length_append]; simp [onN])⟩)⟩
  · rw [List.nodup_append]
    exact ⟨hn, by simp, fun a ha b hb e => by simp at hb; subst hb; exact hnot (e ▸ ha)⟩
  · unfold upB
    by_cases e : k = who
    · subst e; simp
    · rw [if_neg e, hf k hk]
      have : ¬ (k : Int) = (who : Int) := by omega
      simp [this]
  · rcases List.mem_append.1 hx with hx | hx
    · exact hs x hx
    · simp at hx; exact ⟨who, hw, hx⟩

theorem p_give (hb : bt ≤ 2) (hf : ∀ k : Nat, k < 4 → (f k = true ↔ (k : Int) ∈ ([] : List Int))) (hp : pathN ev = some (2, 0)) : PInv what none (ev ++ [6]) 0 bt f :=
  ⟨hb, .inl ⟨rfl, rfl, fun k hk => by have := hf k hk; cases h : f k; rfl; rw [h] at this; simp at this, path_on hp rfl⟩⟩

theorem p_leave (hb : bt ≤ 2) {who : Nat} (hw : who < 4) (hn : ts.Nodup) (hf : ∀ k : Nat, k < 4 → (f k = true ↔ (k : Int) ∈ ts)) (hs : ∀ x ∈ ts, ∃ k : Nat, k < 4 ∧ x = k) (h3 : what = 3 → ts = []) (hp : pathN ev = some (2, ts.length)) (hy : f who = true) : PInv what (some (pO what (ts.erase (who : Int)))) (ev ++ [4]) 2 bt (upB f who false) := by
  have hin : (who : Int) ∈ ts := (hf who hw).1 hy
  have hl := List.length_erase_of_mem hin
  have hpos : 0 < ts.length := List.length_pos_of_mem hin
  refine ⟨hb, .inr (.inr ⟨rfl, _, rfl, hn.erase _, fun k hk => ?_, fun x hx => hs x (List.mem_of_mem_erase hx), fun e => by rw [h3 e]; rfl, path_on hp (by rw [hl]; simp [onN, hpos])⟩)⟩
  unfold upB
  rw [hn.mem_erase_iff]
  by_cases e : k = who
  · subst e; simp
  · rw [if_neg e, hf k hk]
    have : ¬ (k : Int) = (who : Int) := by omega
    simp [this]

theorem p_recl (hb : bt ≤ 2) (hf : ∀ k : Nat, k < 4 → (f k = true ↔ (k : Int) ∈ ([] : List Int))) (hp : pathN ev = some (2, 0)) : PInv what none (ev ++ [5]) 0 bt f :=
  ⟨hb, .inl ⟨rfl, rfl, fun k hk => by have := hf k hk; cases h : f k; rfl; rw [h] at this; simp at this, path_on hp rfl⟩⟩

theorem p_drop (hb : bt ≤ 2) (hf : ∀ k, k < 4 → f k = false) (hp : pathN ev = some (1, 0)) : PInv what none (ev ++ [7]) 0 bt f := ⟨hb, .inl ⟨rfl, rfl, hf, path_on hp rfl⟩⟩

/-- What may be, of an offer. -/
theorem may3_ne {who : Nat} (h3 : what ≠ 3) (hw : who < 4) (hf : (f who = true ↔ (who : Int) ∈ ts)) : mayF (some (pO what ts)) who 3 = if f who = true then -6 else 0 := by
  have hr : recvB (pRs what) who = true := by
    unfold pRs
    rw [if_neg h3]
    have : who = 0 ∨ who = 1 ∨ who = 2 ∨ who = 3 := by omega
    rcases this with rfl | rfl | rfl | rfl <;> rfl
  have e : mayF (some (pO what ts)) who 3 = if recvB (pRs what) who = true ∧ (who : Int) ∉ ts then 0 else -6 := by
    show mayR (pO what ts) who 3 = _
    unfold mayR
    rw [if_pos rfl]
    rfl
  rw [e, hr]
  by_cases hfw : f who = true
  · rw [if_pos hfw, if_neg (fun h => h.2 (hf.1 hfw))]
  · rw [if_neg hfw, if_pos ⟨rfl, fun h => hfw (hf.2 h)⟩]

theorem perm3_ne {who : Nat} (h3 : what ≠ 3) (hw : who < 4) : permF (pRs what) who = who + 1 := by
  unfold pRs
  rw [if_neg h3]
  have : who = 0 ∨ who = 1 ∨ who = 2 ∨ who = 3 := by omega
  rcases this with rfl | rfl | rfl | rfl <;> rfl

theorem may3_3 {who : Nat} : mayF (some (pO 3 [])) who 3 = if who = 0 then 0 else -6 := by
  have e : mayF (some (pO 3 [])) who 3 = if recvB [(0, 1)] who = true then 0 else -6 := by simp [mayF, mayR, pO, pD, pRs]
  rw [e]
  by_cases h : who = 0
  · subst h; rfl
  · rw [if_neg h, if_neg]
    simp [recvB]
    omega

theorem may3_3' {who : Nat} (h3 : what = 3) : mayF (some (pO what [])) who 3 = if who = 0 then 0 else -6 := by subst h3; exact may3_3

theorem perm3_3 (h3 : what = 3) : permF (pRs what) ((0 : Nat) : Int) = 1 := by subst h3; rfl

theorem tk_no {o : Option PactR} {who : Int} (h : mayF o who 3 ≠ 0) : takeO o who = o ∧ takeE o who ev = ev ∧ takeP o who = 0 := by
  refine ⟨?_, ?_, ?_⟩
  · unfold takeO; rw [if_neg h]
  · unfold takeE; rw [if_neg h]
  · unfold takeP; rw [if_neg h]

theorem tk_give {who : Int} (h3 : what = 3) (h : mayF (some (pO what ts)) who 3 = 0) : takeO (some (pO what ts)) who = none ∧ takeE (some (pO what ts)) who ev = ev ++ [6] ∧ takeP (some (pO what ts)) who = permF (pRs what) who := by
  refine ⟨?_, ?_, ?_⟩
  · unfold takeO; rw [if_pos h]; show (if what = 3 then none else _) = none; rw [if_pos h3]
  · unfold takeE; rw [if_pos h]; show ev ++ [if decide (what = 3) = true then 6 else 3] = _; rw [if_pos (decide_eq_true h3)]
  · unfold takeP; rw [if_pos h]; rfl

theorem tk_some {who : Int} (h3 : what ≠ 3) (h : mayF (some (pO what ts)) who 3 = 0) : takeO (some (pO what ts)) who = some (pO what (ts ++ [who])) ∧ takeE (some (pO what ts)) who ev = ev ++ [3] ∧ takeP (some (pO what ts)) who = permF (pRs what) who := by
  refine ⟨?_, ?_, ?_⟩
  · unfold takeO; rw [if_pos h]; show (if what = 3 then none else some (pO what (ts ++ [who]))) = _; rw [if_neg h3]
  · unfold takeE; rw [if_pos h]; show ev ++ [if decide (what = 3) = true then 6 else 3] = _; rw [if_neg (by simpa using h3)]
  · unfold takeP; rw [if_pos h]; rfl

theorem may4_2 {who : Int} : mayF (some (pO what ts)) who 4 = if who ∈ ts then 0 else -6 := by
  show mayR (pO what ts) who 4 = _
  unfold mayR
  rw [if_neg (by decide), if_pos rfl]
  rfl

theorem lv_no {o : Option PactR} {who : Int} (h : mayF o who 4 ≠ 0) : leaveO o who = o ∧ leaveE o who ev = ev := by
  refine ⟨?_, ?_⟩
  · unfold leaveO; rw [if_neg h]
  · unfold leaveE; rw [if_neg h]

theorem lv_yes {who : Int} (h : mayF (some (pO what ts)) who 4 = 0) : leaveO (some (pO what ts)) who = some (pO what (ts.erase who)) ∧ leaveE (some (pO what ts)) who ev = ev ++ [4] := by
  refine ⟨?_, ?_⟩
  · unfold leaveO; rw [if_pos h]; rfl
  · unfold leaveE; rw [if_pos h]

theorem may5_2 : mayF (some (pO what ts)) 5 5 = if ts = [] then 0 else -6 := by
  show mayR (pO what ts) 5 5 = _
  unfold mayR
  rw [if_neg (by decide), if_neg (by decide), if_pos rfl]
  by_cases h : ts = []
  · rw [if_pos h, if_pos ⟨rfl, h⟩]
  · rw [if_neg h, if_neg (fun e => h e.2)]

theorem rc_no {o : Option PactR} {who : Int} (h : mayF o who 5 ≠ 0) : reclO o who = o ∧ reclE o who ev = ev := by
  refine ⟨?_, ?_⟩
  · unfold reclO; rw [if_neg h]
  · unfold reclE; rw [if_neg h]

theorem rc_yes {o : Option PactR} {who : Int} (h : mayF o who 5 = 0) : reclO o who = none ∧ reclE o who ev = ev ++ [5] := by
  refine ⟨?_, ?_⟩
  · unfold reclO; rw [if_pos h]
  · unfold reclE; rw [if_pos h]

theorem pRs_len (h3 : what ≠ 3) : (pD what).recvs.length = 4 := by show (pRs what).length = 4; unfold pRs; rw [if_neg h3]; rfl

theorem pRs_len3 (h3 : what = 3) : (pD what).recvs.length = 1 := by show (pRs what).length = 1; unfold pRs; rw [if_pos h3]; rfl

end

end Go.Proofs.Ytcoedmiichppdaa


/-
  Who took a deal, as a law has it: four Booleans.
-/
namespace Go.Proofs.Ytcoedmiichppdaa
open Go Go.RowKit Go.Maps Go.Am
set_option linter.unusedVariables false
set_option linter.unusedSimpArgs false

/-- Who took it, as the law has it. -/
structure TookAt (w : World) (ow : Nat → Int) (TB : Nat) (f : Nat → Bool) : Prop where
  own : ow TB = -2
  ty : Typed w TB 61
  c : ∀ k, k < 4 → w.cell? ⟨TB, k, none⟩ = some (.bool (f k))
  fz : ∀ k, k < 4 → w.frozen? ⟨TB, k, none⟩ = false

theorem TookAt.kept {w w' : World} {ow ow' : Nat → Int} {TB : Nat} {f : Nat → Bool} (h : TookAt w ow TB f) (hk : Kept w w' ow ow') : TookAt w' ow' TB f := by
  have hlt := h.ty.lt
  obtain ⟨ho, l, hg, hl⟩ := hk
  have hn : TB ∉ l := fun hx => hl TB hx hlt h.own
  exact ⟨by rw [ho TB hlt]; exact h.own, h.ty.kept hg hn, fun k hk => hg.cell (h.c k hk) hn, fun k hk => hg.frozen hlt (h.fz k hk) hn⟩

theorem TookAt.set {w : World} {ow : Nat → Int} {TB : Nat} {f : Nat → Bool} (h : TookAt w ow TB f) (q : Nat) (hq : q < 4) (b : Bool) : TookAt (w.setCell ⟨TB, q, none⟩ (.bool b)) ow TB (upB f q b) := by
  refine ⟨h.own, h.ty.setCell _ _ _, fun k hk => ?_, fun k hk => ?_⟩
  · unfold upB
    by_cases e : k = q
    · subst e
      rw [if_pos rfl]
      exact World.cell?_setCell_same _ _ _ (h.c k hk)
    · rw [if_neg e]
      exact cell_setCell_off (h.c k hk) e
  · have := h.fz k hk
    go_simp

end Go.Proofs.Ytcoedmiichppdaa
