/-
  PactDrops: the walk.
-/
import Derived.Test.YtcoedmiichppdaaJ11
import Derived.Test.YtcoedmiichppdaaProg
import Derived.Test.YtcoedmiichppdaaRows
import Derived.WalkKit
import Derived.ProofKit
import Derived.OpenShut
import Derived.ShutString
import Derived.WideKeyArr2
import Derived.ChangeSlices
import Derived.ChangeOld
import Derived.Carry

namespace Go.Proofs.Ytcoedmiichppdaa
open Go Go.RowKit Go.Maps Go.Am
set_option linter.unusedVariables false
set_option linter.unusedSimpArgs false

/-- A deal of Lend that has begun, of one byte. -/
def dR : PactR := ⟨2, 2, [], 1, false, ⟨0, 0, false, [], []⟩, [], []⟩

/-- m's deal is o, its events ev; the others are as they were. -/
def OfM (w : World) (ow : Nat → Int) (P N : Nat) (g : Nat → Int) (L : List Int) (deals : Int → Option PactR) (events : Int → List Int) (m : Int) (o : Option PactR) (ev : List Int) : Prop := AllP w ow P N g (nextL L m o) (updD deals m o) (updE events m ev)

theorem updD_upd (deals : Int → Option PactR) (m : Int) (o o' : Option PactR) : updD (updD deals m o) m o' = updD deals m o' := by funext k; unfold updD; split <;> rfl

theorem updE_upd (events : Int → List Int) (m : Int) (o o' : List Int) : updE (updE events m o) m o' = updE events m o' := by funext k; unfold updE; split <;> rfl

theorem nextL_next {L : List Int} (hn : L.Nodup) (m : Int) (o o' : Option PactR) (h : o = none → o' = none) : nextL (nextL L m o) m o' = nextL L m o' := by
  cases o with
  | some r => rfl
  | none =>
    rw [h rfl]
    unfold nextL
    simp only [Option.isSome_none, Bool.false_eq_true, if_false]
    exact List.erase_of_not_mem (fun hx => (hn.mem_erase_iff.1 hx).1 rfl)

theorem AllP.ofM {w : World} {ow : Nat → Int} {P N : Nat} {g : Nat → Int} {L : List Int} {deals : Int → Option PactR} {events : Int → List Int} (h : AllP w ow P N g L deals events) (m : Int) : OfM w ow P N g L deals events m (deals m) (events m) := by
  unfold OfM
  exact h.same m h

section
variable {w : World} {ow : Nat → Int} {P N : Nat} {g : Nat → Int} {L : List Int} {deals : Int → Option PactR} {events : Int → List Int} {m : Int} {o : Option PactR} {ev : List Int}

theorem OfM.quiet {w' : World} (h : OfM w ow P N g L deals events m o ev) (hg : GrowBut w w' []) : OfM w' (owN ow w (-2)) P N g L deals events m o ev := AllP.kept h hg (fun x hx => by cases hx) owN_old

theorem OfM.step {w' : World} {ow' : Nat → Int} {N' : Nat} {o' : Option PactR} {ev' : List Int} (hn : L.Nodup) (h : AllP w' ow' P N' g (nextL (nextL L m o) m o') (updD (updD deals m o) m o') (updE (updE events m ev) m ev')) (ho : o = none → o' = none) : OfM w' ow' P N' g L deals events m o' ev' := by
  unfold OfM
  rw [nextL_next hn m o o' ho, updD_upd, updE_upd] at h
  exact h

theorem drop_of (hn : L.Nodup) (h : OfM w ow P N g L deals events m o ev) (hm : (Lit.int .u64 m).wf = true) (hN : N ≤ 90000) (hl : ev.length ≤ 10000) :
    Calls Try.prog 40 #[.pointer (some ⟨P, 0, none⟩), .int .u64 m] w fun e w' => ∃ ow', e = .returned (.bool (isSent o)) ∧ OfM w' ow' P (N + 2) g L deals events m (dropO o) (dropE o ev) ∧ Kept w w' ow ow' := by
  refine Calls.mono (drop_any h m hm hN (by rw [updE_same]; exact hl)) ?_
  rintro e w' ⟨ow', rfl, h3, h4⟩
  rw [updD_same, updE_same] at h3
  exact ⟨ow', by rw [updD_same], OfM.step hn h3 (fun e => by subst e; rfl), h4⟩

theorem recl_of (hn : L.Nodup) (h : OfM w ow P N g L deals events m o ev) (who : Int) (hm : (Lit.int .u64 m).wf = true) (hp : (Lit.int .i64 who).wf = true) (hN : N ≤ 90000) (hl : ev.length ≤ 10000) :
    Calls Try.prog 39 #[.pointer (some ⟨P, 0, none⟩), .int .u64 m, .int .i64 who] w fun e w' => ∃ ow' vd vf, e = .returned (.tuple #[vd, vf, .int .i64 (mayF o who 5)]) ∧ DealV w' ow' (toldD o (mayF o who 5)) vd ∧ FramesV w' ow' (toldF o (mayF o who 5)) vf ∧
      OfM w' ow' P (N + 2) g L deals events m (reclO o who) (reclE o who ev) ∧ Kept w w' ow ow' := by
  refine Calls.mono (recl_any h m who hm hp hN (by rw [updE_same]; exact hl)) ?_
  rintro e w' ⟨ow', vd, vf, rfl, h1, h2, h3, h4⟩
  rw [updD_same, updE_same] at h3
  rw [updD_same] at h1 h2
  exact ⟨ow', vd, vf, by rw [updD_same], h1, h2, OfM.step hn h3 (fun e => by subst e; unfold reclO; split <;> rfl), h4⟩

theorem offer_of (hn : L.Nodup) (h : OfM w ow P N g L deals events m o ev) (hm : (Lit.int .u64 m).wf = true) (hN : N ≤ 90000) (hl : ev.length ≤ 10000)
    (d : DealR) (fr : List Int) {v7 v8 v9 : Value} (h7 : w.ownsRow 0 52 2 v7 d.recvs.length (encPr d.recvs)) (h8 : w.ownsRow 0 55 2 v8 d.spans.length (encPr d.spans)) (h9 : w.ownsRow 0 3 1 v9 fr.length (fr.map (Value.int .i64))) (hl7 : d.recvs.length ≤ 10000) (hl8 : d.spans.length ≤ 10000) (hl9 : fr.length ≤ 10000) :
    Calls Try.prog 36 #[.pointer (some ⟨P, 0, none⟩), .int .u64 m, .agg #[.int .i64 d.kind, .int .i64 d.sender, .bool d.zero, v7, v8], v9] w fun e w' => ∃ ow', e = .returned (.int .i64 (if isFull o = true then 0 else -2)) ∧
      OfM w' ow' P (N + 2) g L deals events m (offerO o d fr) (offerE o ev) ∧ Kept w w' ow ow' := by
  refine Calls.mono (offer_any h m hm hN (by rw [updE_same]; exact hl) d fr h7 h8 h9 hl7 hl8 hl9) ?_
  rintro e w' ⟨ow', rfl, h3, h4⟩
  rw [updD_same, updE_same] at h3
  exact ⟨ow', by rw [updD_same], OfM.step hn h3 (fun e => by subst e; rfl), h4⟩

theorem piece_of (hn : L.Nodup) (h : OfM w ow P N g L deals events m o ev) (s : Int) (hm : (Lit.int .u64 m).wf = true)
    (sa : Option Addr) (c : Nat) (ys : List Int) (hys : ys.length ≤ 10000) (hy : 0 < ys.length → ∃ gb off, sa = some ⟨gb, off, none⟩ ∧ ∀ j, j < ys.length → w.cell? ⟨gb, off + j, none⟩ = some (.int .u8 (ys.getD j 0))) :
    Calls Try.prog 35 #[.pointer (some ⟨P, 0, none⟩), .int .u64 m, .int .i64 s, .slice sa ys.length c] w fun e w' => ∃ ow' v, e = .returned (.tuple #[v, .int .i64 (kindPc o s ys), .bool (lastPc o s ys), .int .i64 (if mayPc o s ys = true then 0 else -2)]) ∧ BytesV w' ow' (wholePc o s ys) v ∧
      OfM w' ow' P N g L deals events m (pieceO o s ys) ev ∧ Kept w w' ow ow' := by
  refine Calls.mono (piece_any h m s hm sa c ys hys hy) ?_
  rintro e w' ⟨ow', v, rfl, h2, h3, h4⟩
  rw [updD_same, updE_same] at h3
  rw [updD_same] at h2
  exact ⟨ow', v, by rw [updD_same], h2, OfM.step hn h3 (fun e => by subst e; rfl), h4⟩

theorem events_of (h : OfM w ow P N g L deals events m o ev) (hm : (Lit.int .u64 m).wf = true) (hm0 : 0 ≤ m) (hl : ev.length ≤ 10000) :
    Calls Try.prog 42 #[.pointer (some ⟨P, 0, none⟩), .int .u64 m] w fun e w' => ∃ v, e = .returned v ∧ w'.ownsRow w.heap.size 3 1 v ev.length (ev.map (Value.int .i64)) ∧ GrowBut w w' [] := by
  have := events_any h m hm hm0 (by rw [updE_same]; exact hl)
  rw [updE_same] at this
  exact this

end

/-- A mark of sender 2. -/
def mk2 (j : Int) : Int := 12884901888 + j

theorem mk2_wf {j : Int} (h0 : 0 ≤ j) (h1 : j < 1000000) : (Lit.int .u64 (mk2 j)).wf = true := by
  simp only [Lit.wf, Bool.and_eq_true, decide_eq_true_eq]
  have hmn : IntKind.u64.min = 0 := by decide
  have hM : IntKind.u64.max = 18446744073709551615 := by decide
  unfold mk2
  rw [hmn, hM]
  omega

/-- So many marks of sender 2 are there, just begun. -/
structure DropsAt (w : World) (ow : Nat → Int) (P N : Nat) (g : Nat → Int) (L : List Int) (deals : Int → Option PactR) (events : Int → List Int) (ms : List Int) : Prop where
  all_ : AllP w ow P N g L deals events
  nd : ms.Nodup
  is_ : ∀ x ∈ ms, deals x = some dR ∧ events x = [1]
  only : ∀ x, (deals x).isSome = true → x ∈ ms
  given : ∀ x ∈ ms, ∃ j : Int, 1 ≤ j ∧ j ≤ g 2 ∧ x = mk2 j
  fresh : ∀ j : Int, g 2 < j → events (mk2 j) = []
  few : g 2 ≤ 1000

theorem DropsAt.perm {w : World} {ow : Nat → Int} {P N : Nat} {g : Nat → Int} {L : List Int} {deals : Int → Option PactR} {events : Int → List Int} {ms : List Int} (h : DropsAt w ow P N g L deals events ms) : L.Perm ms := by
  refine (List.perm_ext_iff_of_nodup h.all_.nodup h.nd).2 fun x => ?_
  rw [h.all_.mem]
  exact ⟨h.only x, fun hx => by rw [(h.is_ x hx).1]; rfl⟩

theorem whose_mk2 {j : Int} (h0 : 1 ≤ j) (h1 : j ≤ 1000) : whose (mk2 j) = 2 := by
  have := whose_new (s := 2) (j := j) (by omega) (by omega)
  simpa [mk2] using this

theorem DropsAt.count {w : World} {ow : Nat → Int} {P N : Nat} {g : Nat → Int} {L : List Int} {deals : Int → Option PactR} {events : Int → List Int} {ms : List Int} (h : DropsAt w ow P N g L deals events ms) : (ofWho L 2).length = ms.length := by
  unfold ofWho
  rw [(h.perm.filter _).length_eq]
  congr 1
  rw [List.filter_eq_self]
  intro x hx
  obtain ⟨j, h1, h2, rfl⟩ := h.given x hx
  simpa using whose_mk2 h1 (by have := h.few; omega)

theorem DropsAt.permute {w : World} {ow : Nat → Int} {P N : Nat} {g : Nat → Int} {L : List Int} {deals : Int → Option PactR} {events : Int → List Int} {ms ms' : List Int} (h : DropsAt w ow P N g L deals events ms) (hp : ms'.Perm ms) : DropsAt w ow P N g L deals events ms' :=
  ⟨h.all_, hp.nodup_iff.2 h.nd, fun x hx => h.is_ x (hp.mem_iff.1 hx), fun x hx => hp.mem_iff.2 (h.only x hx), fun x hx => h.given x (hp.mem_iff.1 hx), h.fresh, h.few⟩

theorem DropsAt.kept {w w' : World} {ow ow' : Nat → Int} {P N : Nat} {g : Nat → Int} {L : List Int} {deals : Int → Option PactR} {events : Int → List Int} {ms : List Int} (h : DropsAt w ow P N g L deals events ms) {l : List Nat} (hg : GrowBut w w' l) (hl : ∀ x ∈ l, x < w.heap.size → ow x = -2) (ho : ∀ x, x < w.heap.size → ow' x = ow x) : DropsAt w' ow' P N g L deals events ms :=
  ⟨h.all_.kept hg hl ho, h.nd, h.is_, h.only, h.given, h.fresh, h.few⟩

theorem mk2_inj {i j : Int} (h : mk2 i = mk2 j) : i = j := by unfold mk2 at h; omega

/-- One more. -/
theorem DropsAt.begun {w w' : World} {ow ow' : Nat → Int} {P N N' : Nat} {g : Nat → Int} {L : List Int} {deals : Int → Option PactR} {events : Int → List Int} {ms : List Int} {n : Int} (h : DropsAt w ow P N g L deals events ms) (hn : n = mk2 (g 2 + 1)) (h0 : 0 ≤ g 2) (hf : g 2 + 1 ≤ 1000)
    (hA : AllP w' ow' P N' (upG g 2) (n :: L) (updD deals n (some dR)) (updE events n (events n ++ [1]))) : DropsAt w' ow' P N' (upG g 2) (n :: L) (updD deals n (some dR)) (updE events n (events n ++ [1])) (n :: ms) := by
  have hg2 : upG g 2 2 = g 2 + 1 := by simp [upG]
  have hnot : ∀ x ∈ ms, x ≠ n := fun x hx e => by
    obtain ⟨j, h1, h2, h3⟩ := h.given x hx
    rw [e, hn] at h3
    have := mk2_inj h3
    omega
  have hev : events n = [] := by rw [hn]; exact h.fresh _ (by omega)
  refine ⟨hA, List.nodup_cons.2 ⟨fun hx => hnot n hx rfl, h.nd⟩, fun x hx => ?_, fun x hx => ?_, fun x hx => ?_, fun j hj => ?_, by omega⟩
  · by_cases e : x = n
    · subst e; rw [updD_same, updE_same, hev]; exact ⟨rfl, rfl⟩
    · have hx' : x ∈ ms := by simpa [e] using hx
      simp only [updD, updE, if_neg e]
      exact h.is_ x hx'
  · by_cases e : x = n
    · simp [e]
    · simp only [updD, if_neg e] at hx
      exact List.mem_cons_of_mem _ (h.only x hx)
  · by_cases e : x = n
    · exact ⟨g 2 + 1, by omega, by omega, by rw [e, hn]⟩
    · have hx' : x ∈ ms := by simpa [e] using hx
      obtain ⟨j, h1, h2, h3⟩ := h.given x hx'
      exact ⟨j, h1, by omega, h3⟩
  · have e : ¬ mk2 j = n := fun e => by rw [hn] at e; have := mk2_inj e; omega
    simp only [updE, if_neg e]
    exact h.fresh j (by omega)

/-- One less. -/
theorem DropsAt.ended {w w' : World} {ow ow' : Nat → Int} {P N N' : Nat} {g : Nat → Int} {L : List Int} {deals : Int → Option PactR} {events : Int → List Int} {ms : List Int} {m : Int} {ev : List Int} (h : DropsAt w ow P N g L deals events ms) (hm : m ∈ ms) (hO : OfM w' ow' P N' g L deals events m none ev) :
    DropsAt w' ow' P N' g (nextL L m none) (updD deals m none) (updE events m ev) (ms.erase m) := by
  have hmem : ∀ x, x ∈ ms.erase m ↔ x ≠ m ∧ x ∈ ms := fun x => h.nd.mem_erase_iff
  obtain ⟨jm, hj1, hj2, hjm⟩ := h.given m hm
  refine ⟨hO, h.nd.erase m, fun x hx => ?_, fun x hx => ?_, fun x hx => ?_, fun j hj => ?_, h.few⟩
  · obtain ⟨h1, h2⟩ := (hmem x).1 hx
    simp only [updD, updE, if_neg h1]
    exact h.is_ x h2
  · by_cases e : x = m
    · subst e; rw [updD_same] at hx; cases hx
    · simp only [updD, if_neg e] at hx
      exact (hmem x).2 ⟨e, h.only x hx⟩
  · exact h.given x ((hmem x).1 hx).2
  · have e : ¬ mk2 j = m := fun e => by rw [hjm] at e; have := mk2_inj e; omega
    simp only [updE, if_neg e]
    exact h.fresh j hj

theorem set_perm {ms : List Int} {k : Nat} {m n : Int} (h : ms[k]? = some m) : (ms.set k n).Perm (n :: ms.erase m) := by
  induction ms generalizing k with
  | nil => simp at h
  | cons a t ih =>
    cases k with
    | zero =>
      simp at h
      subst h
      simp
    | succ k =>
      simp only [List.getElem?_cons_succ] at h
      have hmt : m ∈ t := List.mem_of_getElem? h
      simp only [List.set_cons_succ]
      by_cases e : a = m
      · subst e
        simp only [List.erase_cons_head]
        exact ((ih h).cons a).trans ((List.Perm.swap n a _).trans ((List.perm_cons_erase hmt).symm.cons n))
      · rw [List.erase_cons_tail (by simpa using e)]
        exact ((ih h).cons a).trans (List.Perm.swap n a _)

theorem wf_u8n {a : Int} (h : (Lit.int .u8 a).wf = true) : ∃ A : Nat, a = A ∧ A < 256 := by
  simp only [Lit.wf, Bool.and_eq_true, decide_eq_true_eq] at h
  have hm : IntKind.u8.min = 0 := by decide
  have hM : IntKind.u8.max = 255 := by decide
  rw [hm, hM] at h
  exact ⟨a.toNat, by omega, by omega⟩

theorem getD_memI {l : List Int} {i : Nat} (h : i < l.length) : l.getD i 0 ∈ l := by
  rw [List.getD_eq_getElem?_getD, List.getElem?_eq_getElem h]; simp

theorem dealV_zero {w : World} {ow : Nat → Int} {v : Value} (h : DealV w ow zeroD v) : ∃ s7 c7 s8 c8, v = .agg #[.int .i64 0, .int .i64 0, .bool false, .slice s7 0 c7, .slice s8 0 c8] := by
  obtain ⟨v7, v8, rfl, h7, h8⟩ := h
  obtain ⟨s7, c7, rfl⟩ := row_form h7.1
  obtain ⟨s8, c8, rfl⟩ := row_form h8.1
  exact ⟨s7, c7, s8, c8, rfl⟩

theorem one_byte (w : World) (x : Int) : ∀ j, j < ([x] : List Int).length → (w.alloc (.cells #[.int .u8 x] 5)).cell? ⟨w.heap.size, 0 + j, none⟩ = some (.int .u8 (([x] : List Int).getD j 0)) := by
  intro j hj
  have : j = 0 := by simpa using hj
  subst this
  go_simp

/-- One of a row is set. -/
theorem row_set {w : World} {base n cap g k : Nat} {e : TypeId} {xs : List Value} {u : Value} (h : w.ownsRow base e 1 (.slice (some ⟨g, 0, none⟩) n cap) n xs) (hk : k < n) : (w.setCell ⟨g, k, none⟩ u).ownsRow base e 1 (.slice (some ⟨g, 0, none⟩) n cap) n (xs.set k u) ∧ w.frozen? ⟨g, k, none⟩ = false := by
  obtain ⟨hx, h⟩ := h
  rcases h with ⟨h', _⟩ | ⟨g', cap', cur, h', hbase, hg, h1, h2, h3, h4⟩
  · cases h'
  · simp only [Value.slice.injEq, Option.some.injEq, Addr.mk.injEq, and_true, true_and] at h'
    obtain ⟨rfl, rfl⟩ := h'
    refine ⟨⟨by simpa using hx, .inr ⟨g, cap, _, rfl, hbase, heap_setCell_same w g k cur e u hg, h1, h2, ?_, ?_⟩⟩, ?_⟩
    · simpa using h3
    · rw [← h4]
      simp [List.take_set]
    · simp [World.frozen?, hg]

theorem DealAt.other {w w' : World} {ow ow' : Nat → Int} {D : Nat} {d : DealR} {l : List Nat} (h : DealAt w ow D d) (hg : GrowBut w w' l) (hD : D ∉ l) (hl : ∀ x ∈ l, ¬ Typed w x 52 ∧ ¬ Typed w x 55) (ho : ∀ x, x < w.heap.size → ow' x = ow x) : DealAt w' ow' D d := by
  obtain ⟨h0, v7, v8, c0, c1, c2, c3, c4, h7, h8⟩ := h
  exact ⟨by rw [ho D (cell_lt c0)]; exact h0, v7, v8, hg.cell c0 hD, hg.cell c1 hD, hg.cell c2 hD, hg.cell c3 hD, hg.cell c4 hD, h7.other hg (fun x hx => (hl x hx).1) ho, h8.other hg (fun x hx => (hl x hx).2) ho⟩

def dD : DealR := ⟨2, 2, false, [(1, 1)], [(1, 1)]⟩
def dR1 : PactR := ⟨2, 2, [1], 1, false, ⟨0, 0, false, [], []⟩, [], []⟩
def dR2 : PactR := ⟨2, 2, [1], 1, true, dD, [], []⟩

theorem drops_vals2 : mayPc (some dR) 2 [1] = true ∧ kindPc (some dR) 2 [1] = 2 ∧ lastPc (some dR) 2 [1] = true ∧ pieceO (some dR) 2 [1] = some dR1 ∧ mayF (some dR1) 2 5 = -2 ∧ reclO (some dR1) 2 = some dR1 ∧ reclE (some dR1) 2 [1] = [1] ∧ isFull (some dR1) = true ∧ offerO (some dR1) dD [] = some dR2 ∧ offerE (some dR1) [1] = [1, 2] ∧ isSent (some dR2) = false ∧ dropO (some dR2) = some dR2 ∧ dropE (some dR2) [1, 2] = [1, 2] ∧ mayF (some dR2) 2 5 = 0 ∧ reclO (some dR2) 2 = none ∧ reclE (some dR2) 2 [1, 2] = [1, 2, 5] := ⟨rfl, rfl, rfl, rfl, rfl, rfl, rfl, rfl, rfl, rfl, rfl, rfl, rfl, rfl, rfl, rfl⟩

theorem drops_vals : isSent (some dR) = true ∧ dropO (some dR) = none ∧ dropE (some dR) [1] = [1, 7] ∧ isSent none = false ∧ dropO none = none ∧ dropE none [1, 7] = [1, 7] := ⟨rfl, rfl, rfl, rfl, rfl, rfl⟩

set_option maxRecDepth 100000 in
set_option maxHeartbeats 8000000 in
theorem pactDrops_walk (zs : List Int) (p : Option Addr) (cap : Nat) (w : World) (hz : ∀ i, i < zs.length → ∃ a, p = some a ∧ a.block < w.heap.size ∧ w.cell? (a.add i) = some (.int .u8 (zs.getD i 0))) (hzw : ∀ n ∈ zs, (Lit.int .u8 n).wf = true) :
    Calls Try.prog 5 #[.slice p zs.length cap] w fun e w' => e = .returned (.bool true) ∧ w.grownBy w' none := by
  obtain ⟨i0, hi, hz0, hz1, hz2⟩ := info_parts infoU
  by_cases h20 : 20 < zs.length
  · have h1 : (20 : Int) < (zs.length : Int) := by omega
    go_enter Try.func5, Try.ntmps5
    go_wp2_with (first
      | (go_at_call 32; (refine (begunPact_calls w).mono ?_; rintro e wb ⟨rfl, hgb⟩))
      | fail)
    go_ret
    exact ⟨rfl, hgb.keepAll⟩
  have h1 : ¬ (20 : Int) < (zs.length : Int) := by omega
  go_enter Try.func5, Try.ntmps5
  go_wp2_with (first
    | (go_at_call 32; (refine (begunPact_calls w).mono ?_; rintro e wb ⟨rfl, hgb⟩))
    | (go_at_call 33; (refine (new_any wb).mono ?_; rintro e w1 ⟨P, ow1, rfl, hA1, hlo1, hg1⟩))
    | fail)
  have hgw : GrowBut w w1 [] := hgb.trans hg1
  have hlow : ∀ x, x < w.heap.size → ow1 x = -2 := fun x hx => hlo1 x (Nat.lt_of_lt_of_le hx hgb.size)
  have hD1 : DropsAt w1 ow1 P 0 (fun _ => 0) [] (fun _ => none) (fun _ => []) [] := by
    refine ⟨hA1, List.nodup_nil, fun x hx => ?_, fun x hx => ?_, fun x hx => ?_, fun j _ => rfl, by omega⟩
    · cases hx
    · cases hx
    · cases hx
  clear hgb hg1 hlo1 hA1
  go_loopw [4, 5] (fun v4 v5 wx => ∃ (j : Nat) (ow : Nat → Int) (g : Nat → Int) (L : List Int) (deals : Int → Option PactR) (events : Int → List Int) (ms : List Int), v5 = .int .i64 j ∧ j ≤ 4 ∧ ms.length = j ∧ g 2 = j ∧ DropsAt wx ow P (2 * j) g L deals events ms ∧ RowOf wx ow (-2) 33 1 v4 j (ms.map (Value.int .u64)) ∧ (∀ x, v4.ownBlock = some x → w.heap.size ≤ x) ∧ GrowBut w wx [] ∧ ∀ x, x < w.heap.size → ow x = -2) (fun _ v5 _ => 4 - intOf v5)
  case atStart => exact ⟨0, ow1, _, _, _, _, [], rfl, by omega, rfl, rfl, hD1, nilRow _ _ _ _, fun x hx => by (cases hx), hgw, hlow⟩
  case round =>
    obtain ⟨j, ow, g, L, deals, events, ms, rfl, hj, hml, hg2, hD, hrow, hrlo, hG, hlo⟩ := hrel
    by_cases hlt : j < 4
    · have hlt' : (j : Int) < 4 := by omega
      have hcnt := hD.count
      have hBg := begin_new hD.all_ 2 2 1 (by omega) (by omega) (by omega) (by omega) (by omega) (by omega) (by simp only [Int.cast_ofNat_Int]; omega) (mk2 (j + 1)) (by unfold mk2; simp only [Int.cast_ofNat_Int]; omega) (by rw [hD.fresh _ (by omega)]; simp)
      go_wp2_with (first
        | (go_at_call 34; (refine hBg.mono ?_; clear hBg; rintro e w2 ⟨ow2, rfl, hA2, hk2⟩; have hrow2 := hk2.row hrow))
        | (at_builtin; (refine wpList_append_own_at _ rfl _ _ 74 rfl 0 33 i0 (.int .u64 0) 1 8 Try.underlying74 hi hz0 hz1 hz2 rfl (by decide) _ _ _ rfl (hrow2.1.alloc _) ⟨w2.heap.size, 0, none⟩ 1 1 [.int .u64 (mk2 ((j : Int) + 1))] rfl rfl (cell_one_new _ _ _) (by simp [Value.oneCell']) (by unfold maxLen; omega) (by omega) (by omega) ?_; intro v' w4 hown4 hg4 hnil4 hat4; go_frame))
        | fail)
      have hD2 := hD.begun (n := mk2 (j + 1)) (by rw [hg2]) (by omega) (by omega) hA2
      have hg4' := (GrowBut.alloc w2 (.cells #[.int .u64 (mk2 ((j : Int) + 1))] 33) _).trans (GrowBut.of_rowZ (o := u4.ownBlock) hg4)
      have hown2 : ∀ x ∈ u4.ownBlock.toList, ow2 x = -2 := fun x hx => hrow2.2 x (by simpa using hx)
      have hlo2 : ∀ x, x < w.heap.size → ow2 x = -2 := fun x hx => by rw [hk2.old (Nat.lt_of_lt_of_le hx hG.size)]; exact hlo x hx
      have hsz2 : w.heap.size ≤ w2.heap.size := Nat.le_trans hG.size hk2.size
      have hD4 := (hD2.kept (ow' := owN ow2 w2 (-2)) hg4' (fun x hx _ => hown2 x hx) owN_old).permute (ms' := ms ++ [mk2 (j + 1)]) List.perm_append_comm
      have hG4 : GrowBut w w4 [] := (hk2.grow hG hlo).from hg4' (fun x hx => .inr (hrlo x (by simpa using hx)))
      have he21 : 2 * j + 2 = 2 * (j + 1) := by omega
      have hsa : (w2.alloc (.cells #[.int .u64 (mk2 ((j : Int) + 1))] 33)).heap.size = w2.heap.size + 1 := by simp
      refine ⟨⟨j + 1, owN ow2 w2 (-2), upG g 2, _, _, _, ms ++ [mk2 (j + 1)], by simp, by omega, by simp [hml], by simp [upG, hg2], he21 ▸ hD4, ⟨by rw [List.map_append]; exact hown4, fun x hx => ?_⟩, fun x hx => ?_, hG4, fun x hx => by rw [owN_old _ (by omega)]; exact hlo2 x hx⟩, by simp [intOf]; omega⟩
      · rcases hat4 with h5 | h5
        · rw [h5] at hx
          rw [owN_old _ (hrow2.1.lt x hx).2]
          exact hrow2.2 x hx
        · rw [h5] at hx
          exact owN_new (by simp at hx; omega)
      · rcases hat4 with h5 | h5
        · rw [h5] at hx; exact hrlo x hx
        · rw [h5] at hx; simp at hx; omega
    · have hge : ¬ (j : Int) < 4 := by omega
      have hj4 : j = 4 := by omega
      rw [hj4] at hrow hml hD hg2
      obtain ⟨gM, cM, hvM, _, hgMl⟩ := row_block hrow.1 (by omega)
      rw [hvM] at hrow hrlo
      have hgM := hrow.2 gM rfl
      have hgMlo := hrlo gM rfl
      have hG3 := ((GrowBut.alloc wr (.cells #[.int .i64 1, .int .i64 1] 52) []).trans (GrowBut.alloc _ (.cells #[.int .i64 1, .int .i64 1] 55) [])).trans (GrowBut.alloc _ (.cells #[.int .i64 2, .int .i64 2, .bool false, .slice (some ⟨wr.heap.size, 0, none⟩) 1 1, .slice (some ⟨wr.heap.size + 1, 0, none⟩) 1 1] 58) [])
      have hDl := dealLit wr ow 2 2 1 1 1 1 (Nat.le_refl _)
      have hD3 := hD.kept hG3 (fun x hx => by cases hx) (owN_old (m := -2))
      have hrow3 := (Kept.quiet (ow := ow) hG3).row hrow
      have hG30 := hG.trans hG3
      have hlo3 : ∀ x, x < w.heap.size → owN ow wr (-2) x = -2 := fun x hx => by rw [owN_old _ (Nat.lt_of_lt_of_le hx hG.size)]; exact hlo x hx
      have hgM3 : owN ow wr (-2) gM = -2 := by rw [owN_old _ hgMl]; exact hgM
      go_wp2_with fail
      clear hD hrow hlo hG3 hrlo hgM
      have hDl' : DealAt _ _ (wr.heap.size + 1 + 1) dD := hDl
      clear hDl
      have hDlt : wr.heap.size + 1 + 1 < (((wr.alloc (.cells #[.int .i64 1, .int .i64 1] 52)).alloc (.cells #[.int .i64 1, .int .i64 1] 55)).alloc (.cells #[.int .i64 2, .int .i64 2, .bool false, .slice (some ⟨wr.heap.size, 0, none⟩) 1 1, .slice (some ⟨wr.heap.size + 1, 0, none⟩) 1 1] 58)).heap.size := by simp
      have hgD : wr.heap.size + 1 + 1 ≠ gM := by omega
      generalize wr.heap.size + 1 + 1 = D at hDl' hDlt hgD ⊢
      go_loopw [9] (fun v9 wx => ∃ (i : Nat) (ow : Nat → Int) (g : Nat → Int) (L : List Int) (deals : Int → Option PactR) (events : Int → List Int) (ms : List Int), v9 = .int .i64 i ∧ i ≤ zs.length ∧ ms.length = 4 ∧ g 2 = 4 + i ∧ DropsAt wx ow P (8 + 20 * i) g L deals events ms ∧ RowOf wx ow (-2) 33 1 (.slice (some ⟨gM, 0, none⟩) 4 cM) 4 (ms.map (Value.int .u64)) ∧ DealAt wx ow D dD ∧ GrowBut w wx [] ∧ (∀ x, x < w.heap.size → ow x = -2)) (fun v9 _ => zs.length - intOf v9)
      case atStart => exact ⟨0, _, g, _, _, _, ms, rfl, by omega, hml, by omega, by simpa using hD3, hrow3, hDl', hG30, hlo3⟩
      case round =>
        clear hD3 hrow3 hDl' hG30 hlo3 hml hg2
        obtain ⟨i, ow, g, L, deals, events, ms, rfl, hi', hml, hg2, hD, hrow, hDl, hG, hlo⟩ := hrel
        by_cases hlz : i < zs.length
        · have hlz' : (i : Int) < (zs.length : Int) := by omega
          obtain ⟨az, rfl, hazb, hcz⟩ := hz i hlz
          have hczr := hG.cell hcz (by simp)
          obtain ⟨Z, hZ, hZ2⟩ := wf_u8n (hzw _ (getD_memI hlz))
          rw [hZ] at hczr
          obtain ⟨k, hk⟩ : ∃ k, k = Z / 2 % 4 := ⟨_, rfl⟩
          have hkl : k < 4 := by omega
          have hmk : ms[k]? = some (ms.getD k 0) := by rw [List.getD_eq_getElem?_getD, List.getElem?_eq_getElem (by omega)]; rfl
          have hmin : ms.getD k 0 ∈ ms := List.mem_of_getElem? hmk
          obtain ⟨hdm, hem⟩ := hD.is_ _ hmin
          obtain ⟨jm, hj1, hj2, hjm⟩ := hD.given _ hmin
          generalize hmm : ms.getD k 0 = m at hmk hmin hdm hem hjm
          have hmw : (Lit.int .u64 m).wf = true := by rw [hjm]; exact mk2_wf (by omega) (by have := hD.few; omega)
          have hm0 : 0 ≤ m := by rw [hjm]; unfold mk2; omega
          have hjm' := hjm.symm
          clear hjm
          have hcm := hrow.1.cellAt k (by omega)
          rw [List.getElem?_map, hmk] at hcm
          simp only [Option.map_some] at hcm
          have hB := begin_none hD.all_ 2 2 1 (by omega) (by omega) (by omega) (by omega) (by omega) (by omega) (by have := hD.count; simp only [Int.cast_ofNat_Int] at *; omega)
          have hnd := hD.all_.nodup
          have hO := hD.all_.ofM m
          rw [hdm, hem] at hO
          obtain ⟨n, hn⟩ : ∃ n, mk2 (4 + (i : Int) + 1) = n := ⟨_, rfl⟩
          have hn' : n = mk2 (4 + (i : Int) + 1) := hn.symm
          have hx3i : ms[3]? = some (ms.getD 3 0) := by rw [List.getD_eq_getElem?_getD, List.getElem?_eq_getElem (by omega)]; rfl
          obtain ⟨j3, h31, h32, h33⟩ := hD.given _ (List.mem_of_getElem? hx3i)
          have hc3 := hrow.1.cellAt 3 (by omega)
          rw [List.getElem?_map, hx3i] at hc3
          simp only [Option.map_some] at hc3
          have hmn : ¬ n ≤ m := by rw [hn', ← hjm']; unfold mk2; omega
          have hnwf : (Lit.int .u64 n).wf = true := by rw [hn']; exact mk2_wf (by omega) (by omega)
          have h3b : 0 ≤ ms.getD 3 0 + 1 ∧ ms.getD 3 0 + 1 ≤ 18446744073709551615 := by rw [h33]; unfold mk2; have := hD.few; omega
          clear h33
          generalize ms.getD 3 0 = x3 at hc3 h3b hx3i
          have hw3 := IntWalk.u64_in (x3 + 1) h3b
          have hTail : ∀ (w5 : World) (ow5 : Nat → Int) (N5 : Nat) (ev : List Int), N5 ≤ 900 → OfM w5 ow5 P N5 g L deals events m none ev → Calls Try.prog 34 #[.pointer (some ⟨P, 0, none⟩), .int .i64 2, .int .i64 2, .int .i64 1] w5 fun e w' => ∃ (ow' : Nat → Int) (L' : List Int) (deals' : Int → Option PactR) (events' : Int → List Int), e = .returned (.tuple #[.int .u64 n, .int .i64 0]) ∧
              DropsAt w' ow' P (N5 + 2) (upG g 2) L' deals' events' (ms.set k n) ∧ Kept w5 w' ow5 ow' := fun w5 ow5 N5 ev hN5 hO5 => by
            have hE5 := hD.ended hmin hO5
            have hcnt := hE5.count
            rw [List.length_erase_of_mem hmin, hml] at hcnt
            have hfr : updE events m ev n = [] := by
              rw [hn']
              exact hE5.fresh _ (by omega)
            refine (begin_new hE5.all_ 2 2 1 (by omega) (by omega) (by omega) (by omega) (by omega) hN5 (by simp only [Int.cast_ofNat_Int]; omega) n (by rw [hn']; unfold mk2; simp only [Int.cast_ofNat_Int]; omega) (by rw [hfr]; simp)).mono ?_
            rintro e w' ⟨ow', rfl, hA', hk'⟩
            exact ⟨ow', _, _, _, rfl, (hE5.begun (by rw [hn', hg2]) (by omega) (by omega) hA').permute (set_perm hmk), hk'⟩
          clear hn hn' hjm'
          rcases Nat.mod_two_eq_zero_or_one Z with hpar | hpar
          · have hz2 : (Z : Int) % 2 = 0 := by omega
            have hkk : ((Z : Int) / 2) % 4 = k := by omega
            clear hk hpar
            have hsz := hG.size
            go_wp2_with (first
              | (go_at_call 34; (refine hB.mono ?_; clear hB; rintro e w2 ⟨rfl, hg2'⟩; have hk2 := Kept.quiet (ow := ow) hg2'; have hcz2 := hg2'.cell hczr (by simp); have hcm2 := hg2'.cell hcm (by simp); have hO2 := hO.quiet hg2'; have hrow2 := hk2.row hrow; have hDl2 := hDl.kept hk2; have hDr := drop_of hnd hO2 hmw (by omega) (by simp); rw [drops_vals.1, drops_vals.2.1, drops_vals.2.2.1] at hDr))
              | (go_at_call 40; (refine hDr.mono ?_; clear hDr; rintro e w3 ⟨ow3, rfl, hO3, hk3⟩; have hDr2 := drop_of hnd hO3 hmw (by omega) (by simp); rw [drops_vals.2.2.2.1, drops_vals.2.2.2.2.1, drops_vals.2.2.2.2.2] at hDr2; have hDl3 := hDl2.kept hk3; have hrow3 := hk3.row hrow2))
              | (go_at_call 40; (refine hDr2.mono ?_; clear hDr2; rintro e w4 ⟨ow4, rfl, hO4, hk4⟩; have hDl4 := hDl3.kept hk4; have hrow4 := hk4.row hrow3; have hEv := events_of hO4 hmw hm0 (by simp)))
              | (go_at_call 42; (refine hEv.mono ?_; clear hEv; rintro e w5 ⟨ve, rfl, hev, hg5⟩; obtain ⟨ge, ce, rfl, _, _⟩ := row_block hev (by simp); have hk5 := Kept.quiet (ow := ow4) hg5; have hDl5 := hDl4.kept hk5; have hrow5 := hk5.row hrow4; have hO5 := hO4.quiet hg5; have hev0 := hev.cellAt 0 (by simp)))
              | (go_at_call 34; (refine (hTail w5 _ _ _ (by omega) hO5).mono ?_; clear hTail; rintro e w6 ⟨ow6, L', deals', events', rfl, hD6, hk6⟩; have hDl6 := hDl5.kept hk6; have hrow6 := hk6.row hrow5; have hc36 := hrow6.1.cellAt 3 (by omega); rw [List.getElem?_map, hx3i] at hc36; simp only [Option.map_some] at hc36; obtain ⟨hrs, hfz⟩ := row_set (u := .int .u64 n) hrow6.1 hkl; have hck6 := hrow6.1.cellAt k (by omega); rw [List.getElem?_map, hmk] at hck6; simp only [Option.map_some] at hck6))
              | fail)
            all_goals
              have hgs := GrowBut.setCell w6 ⟨gM, k, none⟩ (.int .u64 n)
              have hg6 := hrow6.2 gM rfl
              have hty : Typed w6 gM 33 := Typed.of_row hrow6.1 rfl
              have hD7 := hD6.kept (ow' := ow6) hgs (fun x hx _ => by simp at hx; rw [hx]; exact hg6) (fun _ _ => rfl)
              have hDl7 := hDl6.other (ow' := ow6) hgs (by simpa using hgD) (fun x hx => by simp at hx; rw [hx]; exact ⟨fun h => Typed.ne hty h (by decide) rfl, fun h => Typed.ne hty h (by decide) rfl⟩) (fun _ _ => rfl)
              have hkA := ((((hk2.trans hk3).trans hk4).trans hk5).trans hk6)
              have hG7 := (hkA.grow hG hlo).from hgs (fun x hx => .inr (by simp at hx; rw [hx]; exact hgMlo))
              have hlo7 : ∀ x, x < w.heap.size → ow6 x = -2 := fun x hx => by rw [hkA.old (Nat.lt_of_lt_of_le hx hG.size)]; exact hlo x hx
              have hrow7 : RowOf (w6.setCell ⟨gM, k, none⟩ (.int .u64 n)) ow6 (-2) 33 1 (.slice (some ⟨gM, 0, none⟩) 4 cM) 4 ((ms.set k n).map (Value.int .u64)) := ⟨by rw [List.map_set]; exact hrs, hrow6.2⟩
              have hD8 : DropsAt (w6.setCell ⟨gM, k, none⟩ (.int .u64 n)) ow6 P (8 + 20 * (i + 1)) (upG g 2) L' deals' events' (ms.set k n) := ⟨hD7.all_.more (by omega), hD7.nd, hD7.is_, hD7.only, hD7.given, hD7.fresh, hD7.few⟩
              have hfin : ∀ u : Int, u = n → ∃ (i_1 : Nat) (ow : Nat → Int) (g : Nat → Int) (L : List Int) (deals : Int → Option PactR) (events : Int → List Int) (ms : List Int), Value.int .i64 ((i : Int) + 1) = .int .i64 i_1 ∧ i_1 ≤ zs.length ∧ ms.length = 4 ∧ g 2 = 4 + (i_1 : Int) ∧ DropsAt (w6.setCell ⟨gM, k, none⟩ (.int .u64 u)) ow P (8 + 20 * i_1) g L deals events ms ∧ RowOf (w6.setCell ⟨gM, k, none⟩ (.int .u64 u)) ow (-2) 33 1 (.slice (some ⟨gM, 0, none⟩) 4 cM) 4 (ms.map (Value.int .u64)) ∧ DealAt (w6.setCell ⟨gM, k, none⟩ (.int .u64 u)) ow D dD ∧ GrowBut w (w6.setCell ⟨gM, k, none⟩ (.int .u64 u)) [] ∧ (∀ x, x < w.heap.size → ow x = -2) := fun u hu => by
                subst hu
                exact ⟨i + 1, ow6, upG g 2, L', deals', events', ms.set k u, by simp, by omega, by simpa using hml, by simp [upG, hg2]; omega, hD8, hrow7, hDl7, hG7, hlo7⟩
              have hms : zs.length - intOf (.int .i64 ((i : Int) + 1)) < zs.length - intOf (.int .i64 (i : Int)) := by simp [intOf]; omega
              first
                | exact ⟨hfin _ rfl, hms⟩
                | exact ⟨hfin _ (by omega), hms⟩
          · have hz2 : (Z : Int) % 2 = 1 := by omega
            have hkk : ((Z : Int) / 2) % 4 = k := by omega
            clear hk hpar
            have hsz := hG.size
            have hwf2 : (Lit.int .i64 2).wf = true := by decide
            have hK := fun (w : World) (ow : Nat → Int) (o : Obj) => Kept.quiet (ow := ow) (GrowBut.alloc w o [])
            go_wp2_with (first
              | (go_at_call 34; (refine hB.mono ?_; clear hB; rintro e w2 ⟨rfl, hg2'⟩; have hk2 := Kept.quiet (ow := ow) hg2'; have hcz2 := hg2'.cell hczr (by simp); have hcm2 := hg2'.cell hcm (by simp); have hO2 := hO.quiet hg2'; have hrow2 := hk2.row hrow; have hDl2 := hDl.kept hk2; have hPc := piece_of hnd (hO2.quiet (GrowBut.alloc w2 (.cells #[.int .u8 1] 5) [])) 2 hmw (some ⟨w2.heap.size, 0, none⟩) 1 [1] (by simp) (fun _ => ⟨w2.heap.size, 0, rfl, one_byte w2 1⟩); rw [drops_vals2.1, drops_vals2.2.1, drops_vals2.2.2.1, drops_vals2.2.2.2.1] at hPc))
              | (go_at_call 35; (refine hPc.mono ?_; clear hPc; rintro e w3 ⟨ow3, vb, rfl, _, hO3, hk3'⟩; have hk3 := (hK w2 _ _).trans hk3'; clear hk3'; have hDl3 := hDl2.kept hk3; have hrow3 := hk3.row hrow2; have hRc := recl_of hnd hO3 2 hmw hwf2 (by omega) (by simp); rw [drops_vals2.2.2.2.2.1, drops_vals2.2.2.2.2.2.1, drops_vals2.2.2.2.2.2.2.1] at hRc))
              | (go_at_call 39; (refine hRc.mono ?_; clear hRc; rintro e wa ⟨owa, vd, vf, rfl, hqd, _, hOa, hka⟩; obtain ⟨qs7, qc7, qs8, qc8, rfl⟩ := dealV_zero hqd; have hDla := (hDl3.kept hka).kept (hK wa owa (.cells #[.int .i64 0, .int .i64 0, .bool false, .slice qs7 0 qc7, .slice qs8 0 qc8] 58)); have hrowa := hka.row hrow3; obtain ⟨hDo, v7, v8, d0, d1, d2, d3, d4, r7, r8⟩ := hDla; have hOf := offer_of hnd (hOa.quiet (GrowBut.alloc wa (.cells #[.int .i64 0, .int .i64 0, .bool false, .slice qs7 0 qc7, .slice qs8 0 qc8] 58) [])) hmw (by omega) (by simp) dD [] (v7 := v7) (v8 := v8) (v9 := .slice none 0 0) r7.1 r8.1 (World.ownsRow_nil _ _ _ _) (by decide) (by decide) (by decide); rw [drops_vals2.2.2.2.2.2.2.2.1, drops_vals2.2.2.2.2.2.2.2.2.1, drops_vals2.2.2.2.2.2.2.2.2.2.1] at hOf))
              | (go_at_call 36; (refine hOf.mono ?_; clear hOf; rintro e wb ⟨owb, rfl, hOb, hkb'⟩; have hkb := (hK wa owa _).trans hkb'; clear hkb'; have hDlb := ((hDl3.kept hka).kept hkb); have hrowb := hkb.row hrowa; have hDr := drop_of hnd hOb hmw (by omega) (by simp); rw [drops_vals2.2.2.2.2.2.2.2.2.2.2.1, drops_vals2.2.2.2.2.2.2.2.2.2.2.2.1, drops_vals2.2.2.2.2.2.2.2.2.2.2.2.2.1] at hDr))
              | (go_at_call 40; (refine hDr.mono ?_; clear hDr; rintro e wc ⟨owc, rfl, hOc, hkc⟩; have hDlc := hDlb.kept hkc; have hrowc := hkc.row hrowb; have hRd := recl_of hnd hOc 2 hmw hwf2 (by omega) (by simp); rw [drops_vals2.2.2.2.2.2.2.2.2.2.2.2.2.2.1, drops_vals2.2.2.2.2.2.2.2.2.2.2.2.2.2.2.1, drops_vals2.2.2.2.2.2.2.2.2.2.2.2.2.2.2.2] at hRd))
              | (go_at_call 39; (refine hRd.mono ?_; clear hRd; rintro e w4 ⟨ow4, vd2, vf2, rfl, _, _, hO4, hk4⟩; have hDl4 := hDlc.kept hk4; have hrow4 := hk4.row hrowc; have hEv := events_of hO4 hmw hm0 (by simp)))
              | (go_at_call 42; (refine hEv.mono ?_; clear hEv; rintro e w5 ⟨ve, rfl, hev, hg5⟩; obtain ⟨ge, ce, rfl, _, _⟩ := row_block hev (by simp); have hk5 := Kept.quiet (ow := ow4) hg5; have hDl5 := hDl4.kept hk5; have hrow5 := hk5.row hrow4; have hO5 := hO4.quiet hg5; have hev0 := hev.cellAt 0 (by simp)))
              | (go_at_call 34; (refine (hTail w5 _ _ _ (by omega) hO5).mono ?_; clear hTail; rintro e w6 ⟨ow6, L', deals', events', rfl, hD6, hk6⟩; have hDl6 := hDl5.kept hk6; have hrow6 := hk6.row hrow5; have hc36 := hrow6.1.cellAt 3 (by omega); rw [List.getElem?_map, hx3i] at hc36; simp only [Option.map_some] at hc36; obtain ⟨hrs, hfz⟩ := row_set (u := .int .u64 n) hrow6.1 hkl; have hck6 := hrow6.1.cellAt k (by omega); rw [List.getElem?_map, hmk] at hck6; simp only [Option.map_some] at hck6))
              | fail)
            all_goals
              have hgs := GrowBut.setCell w6 ⟨gM, k, none⟩ (.int .u64 n)
              have hg6 := hrow6.2 gM rfl
              have hty : Typed w6 gM 33 := Typed.of_row hrow6.1 rfl
              have hD7 := hD6.kept (ow' := ow6) hgs (fun x hx _ => by simp at hx; rw [hx]; exact hg6) (fun _ _ => rfl)
              have hDl7 := hDl6.other (ow' := ow6) hgs (by simpa using hgD) (fun x hx => by simp at hx; rw [hx]; exact ⟨fun h => Typed.ne hty h (by decide) rfl, fun h => Typed.ne hty h (by decide) rfl⟩) (fun _ _ => rfl)
              have hkA := (((((((hk2.trans hk3).trans hka).trans hkb).trans hkc).trans hk4).trans hk5).trans hk6)
              have hG7 := (hkA.grow hG hlo).from hgs (fun x hx => .inr (by simp at hx; rw [hx]; exact hgMlo))
              have hlo7 : ∀ x, x < w.heap.size → ow6 x = -2 := fun x hx => by rw [hkA.old (Nat.lt_of_lt_of_le hx hG.size)]; exact hlo x hx
              have hrow7 : RowOf (w6.setCell ⟨gM, k, none⟩ (.int .u64 n)) ow6 (-2) 33 1 (.slice (some ⟨gM, 0, none⟩) 4 cM) 4 ((ms.set k n).map (Value.int .u64)) := ⟨by rw [List.map_set]; exact hrs, hrow6.2⟩
              have hD8 : DropsAt (w6.setCell ⟨gM, k, none⟩ (.int .u64 n)) ow6 P (8 + 20 * (i + 1)) (upG g 2) L' deals' events' (ms.set k n) := ⟨hD7.all_.more (by omega), hD7.nd, hD7.is_, hD7.only, hD7.given, hD7.fresh, hD7.few⟩
              have hfin : ∀ u : Int, u = n → ∃ (i_1 : Nat) (ow : Nat → Int) (g : Nat → Int) (L : List Int) (deals : Int → Option PactR) (events : Int → List Int) (ms : List Int), Value.int .i64 ((i : Int) + 1) = .int .i64 i_1 ∧ i_1 ≤ zs.length ∧ ms.length = 4 ∧ g 2 = 4 + (i_1 : Int) ∧ DropsAt (w6.setCell ⟨gM, k, none⟩ (.int .u64 u)) ow P (8 + 20 * i_1) g L deals events ms ∧ RowOf (w6.setCell ⟨gM, k, none⟩ (.int .u64 u)) ow (-2) 33 1 (.slice (some ⟨gM, 0, none⟩) 4 cM) 4 (ms.map (Value.int .u64)) ∧ DealAt (w6.setCell ⟨gM, k, none⟩ (.int .u64 u)) ow D dD ∧ GrowBut w (w6.setCell ⟨gM, k, none⟩ (.int .u64 u)) [] ∧ (∀ x, x < w.heap.size → ow x = -2) := fun u hu => by
                subst hu
                exact ⟨i + 1, ow6, upG g 2, L', deals', events', ms.set k u, by simp, by omega, by simpa using hml, by simp [upG, hg2]; omega, hD8, hrow7, hDl7, hG7, hlo7⟩
              have hms : zs.length - intOf (.int .i64 ((i : Int) + 1)) < zs.length - intOf (.int .i64 (i : Int)) := by simp [intOf]; omega
              first
                | exact ⟨hfin _ rfl, hms⟩
                | exact ⟨hfin _ (by omega), hms⟩
        · have hge : ¬ (i : Int) < (zs.length : Int) := by omega
          have hG0 := hG.keepAll
          go_wp2_with fail
          go_ret
          exact ⟨rfl, hG0⟩

end Go.Proofs.Ytcoedmiichppdaa


/-
  Arguments that come in: arrays of numbers, rows of numbers (for a seat without api.Regs).
-/
namespace Go.Proofs.Ytcoedmiichppdaa
open Go Go.ChangeShapes Go.WideShapes Go.ChangeAt Go.RowKit
set_option linter.unusedVariables false
set_option linter.unusedSimpArgs false

theorem laidOut : laidOutB Try.prog = true := by kernel_rfl
theorem ownKnobs : ownKnob Try.prog.godebug = none := by kernel_rfl

/-! ### Arrays of numbers that come in -/
theorem mapM_all {α β : Type} {f : α → Option β} : ∀ {L : List α} {ys : List β}, L.mapM f = some ys → ∀ i ∈ L, ∃ y, f i = some y
  | [], _, _, i, hi => by simp at hi
  | x :: L, ys, h, i, hi => by
    rw [List.mapM_cons] at h
    simp only [bind, Option.bind_eq_some_iff, pure, Option.some.injEq] at h
    obtain ⟨y, hy, zs, hz, _⟩ := h
    rcases List.mem_cons.1 hi with rfl | hi
    · exact ⟨y, hy⟩
    · exact mapM_all hz i hi

theorem all_ints {q : IntKind} : ∀ (l : List Value), (∀ x ∈ l, ∃ a, x = .int q a) → ∃ zs : List Int, l = zs.map (Value.int q ·)
  | [], _ => ⟨[], rfl⟩
  | x :: l, h => by
    obtain ⟨a, rfl⟩ := h x (by simp)
    obtain ⟨zs, rfl⟩ := all_ints l fun y hy => h y (by simp [hy])
    exact ⟨a :: zs, rfl⟩

theorem arr_ints {H : Type} {enc : TypeId × Value → H} {P : Program} {k e : TypeId} {n : Nat} {q : IntKind} {W : World} {base : Nat} {sp : Nat → Bool} {held : Bool} (hu : P.underlying k = some (.array n e)) (he : P.underlying e = some (.int q)) (h1 : P.cellsOf e = 1) (hk : P.cellsOf k = n)
    {xs : Array Value} (hn : xs.size = n) {d : DataW H} {ps : List MemPlace} (hd : DataW.Trod enc P W base sp held k (.agg xs) d ps) : ps = [] ∧ ∃ zs : List Int, xs.toList = zs.map (Value.int q ·) ∧ zs.length = n := by
  obtain ⟨fuel, hf⟩ := hd
  cases fuel with
  | zero => simp [DataW.trod] at hf
  | succ m =>
    rw [DataW.trod_step] at hf
    unfold DataW.trodStep at hf
    simp only [hu, Value.cells] at hf
    rw [if_pos (by rw [hk]; simpa using hn)] at hf
    simp only [Option.map_eq_some_iff] at hf
    obtain ⟨ys, hy, e1⟩ := hf
    obtain ⟨ls, hls, _⟩ := Go.WideMaps.mapM_both (D := 0) he _ ys hy
    simp only [Prod.mk.injEq] at e1
    refine ⟨by rw [← e1.2, hls]; simp [List.flatMap_eq_nil_iff], ?_⟩
    have hall : ∀ x ∈ xs.toList, ∃ a, x = Value.int q a := fun x hx => by
      obtain ⟨i, hi, hxi⟩ := List.getElem_of_mem hx
      have hin : i < n := by rw [← hn]; simpa using hi
      obtain ⟨y, hy'⟩ := mapM_all hy i (by simp [hin])
      obtain ⟨a, ha, _⟩ := DataW.trod_int he hy'
      refine ⟨a, ?_⟩
      rw [h1, Nat.mul_one] at ha
      have : ((xs.toList.drop i).take 1)[0]? = some (Value.int q a) := by rw [ha]; rfl
      rw [List.getElem?_take, if_pos (by omega), List.getElem?_drop, Nat.add_zero, List.getElem?_eq_getElem hi, hxi] at this
      exact Option.some.inj this
    obtain ⟨zs, hz⟩ := all_ints _ hall
    refine ⟨zs, hz, ?_⟩
    have := congrArg List.length hz
    simp at this
    omega

abbrev regs (x0 x1 x2 x3 x4 x5 x6 x7 : Int) : Value := .agg #[.int .u64 x0, .int .u64 x1, .int .u64 x2, .int .u64 x3, .int .u64 x4, .int .u64 x5, .int .u64 x6, .int .u64 x7]

set_option maxRecDepth 100000 in
theorem cell_ltO {w : World} {a : Addr} {v : Value} (h : w.cell? a = some v) : a.block < w.heap.size := by
  by_cases h2 : a.block < w.heap.size
  · exact h2
  · exfalso
    have h3 : w.heap[a.block]? = none := Array.getElem?_eq_none (by omega)
    simp [World.cell?, h3] at h

set_option maxRecDepth 100000 in
theorem slice_ints {H : Type} {enc : TypeId × Value → H} {W : World} {b0 : Nat} {r : Reach} {t e : TypeId} {q : IntKind} {v : Value} {d : DataW H} {ps : List MemPlace} (ht : Try.prog.underlying t = some (.slice e)) (he : Try.prog.underlying e = some (.int q)) (hc : Try.prog.cellsOf e = 1) (hval : Value.okWide Try.prog W r b0 t v)
    (hd : DataW.Trod enc Try.prog W 0 (fun _ => true) true t v d ps) :
    ∃ (zs : List Int) (p : Option Addr) (cap : Nat), v = .slice p zs.length cap ∧ (∀ i, i < zs.length → ∃ a, p = some a ∧ a.block < W.heap.size ∧ W.cell? (a.add i) = some (.int q (zs.getD i 0))) ∧ ∀ n ∈ zs, (Lit.int q n).wf = true := by
  obtain ⟨fuel, hf⟩ := hd
  obtain ⟨a0, len, cap, rfl⟩ := okWide_slice ht hval
  rcases open_ints ht he hc hf with ⟨hcs, hx⟩ | ⟨a, len', cap', zs, hcs, _, hl, hm, hz, hx, hcell, hwz⟩
  · simp [Value.cells] at hcs
    obtain ⟨rfl, rfl, rfl⟩ := hcs
    exact ⟨[], none, 0, rfl, fun i hi => by simp at hi, fun n hn => by simp at hn⟩
  · simp [Value.cells] at hcs
    obtain ⟨rfl, rfl, rfl⟩ := hcs
    simp only [if_true] at hz
    refine ⟨zs.take len, _, cap, by rw [List.length_take, Nat.min_eq_left (by omega)], fun i hi => ?_, fun n hn => hwz n (List.mem_of_mem_take hn)⟩
    rw [List.length_take, Nat.min_eq_left (by omega)] at hi
    have h1 := hcell i (by omega)
    refine ⟨a, rfl, ?_, ?_⟩
    · have : (a.add i).block = a.block := by unfold Addr.add; first | rfl | (split <;> rfl)
      rw [← this]
      exact cell_ltO h1
    · rw [h1, List.getD_eq_getElem?_getD, List.getD_eq_getElem?_getD, List.getElem?_take_of_lt hi]

end Go.Proofs.Ytcoedmiichppdaa
