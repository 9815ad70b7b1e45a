/-
  Package bell: the contracts of its methods.
-/
import Derived.Test.YtlgfopfibopcnaaSorted
import Derived.Test.YtlgfopfibopcnaaGrow
import Derived.Laws.BitsAllLaws
import Derived.Deep.Cut
namespace Go.Proofs.Ytlgfopfibopcnaa
open Go Go.RowKit Go.Maps Go.Am Go.Sort
set_option linter.unusedVariables false

theorem law3K : Keyed Try.prog 3 := int_keyed Try.underlying3

abbrev kJ (k : Int) : Lit := .int .i64 k

theorem keyJ {k : Int} (hk : (Lit.int .i64 k).wf = true) : keyOf Try.prog 3 (.int .i64 k) = some (kJ k) := keyOf_int_mk Try.underlying3 hk

theorem kJ_ne {x y : Int} (h : x ≠ y) : kJ x ≠ kJ y := fun e => by cases e; exact h rfl

/-- A pointer, as itself. -/
def ptrR (v : Value) : Option (DataW Value × List MemPlace) := match v with
  | .pointer _ => some (.held v, [])
  | _ => none

theorem ptrR_inv {v : Value} {d : DataW Value} {ps : List MemPlace} (h : ptrR v = some (d, ps)) : (∃ p, v = .pointer p) ∧ d = .held v ∧ ps = [] := by
  unfold ptrR at h
  split at h
  · cases h; exact ⟨⟨_, rfl⟩, rfl, rfl⟩
  · cases h

theorem zeroP (w : World) : (zeroValue 198).run Try.prog w = .ok (.pointer none) w := by kernel_rfl
theorem zeroU (w : World) : (zeroValue 23).run Try.prog w = .ok (.int .u64 0) w := by kernel_rfl

/-- Somebody's bells: where they lie; whose they are to ring; which are rung; whether one was not told of yet. -/
structure BSet where
  who : Int
  S : Nat
  f : Nat
  n : Nat
  K : List Int
  fr : Int → Nat
  rung : Nat
  fresh : Bool

/-- What the map of whose they are to ring holds. -/
structure FromIs (D : DataW Unit) (K : List Int) (fr : Int → Nat) : Prop where
  nodup : K.Nodup
  has : ∀ k, Maps.has D (kJ k) = decide (k ∈ K)
  at_ : ∀ k ∈ K, ∀ z, D.atKey (kJ k) z = .lit (.int .u64 (fr k))
  out : ∀ k, k ∉ K → fr k = 0
  lt : ∀ k, fr k < 18446744073709551616

theorem FromIs.empty : FromIs (.map []) [] (fun _ => 0) := ⟨List.nodup_nil, fun x => by simp [Maps.has_eq], fun x h => (by cases h), fun _ _ => rfl, fun _ => by decide⟩

theorem FromIs.atKey {D : DataW Unit} {K : List Int} {fr : Int → Nat} (h : FromIs D K fr) (k : Int) : D.atKey (kJ k) (.lit (.int .u64 0)) = .lit (.int .u64 (fr k)) := by
  by_cases e : k ∈ K
  · exact h.at_ k e _
  · rw [atKey_of_not_has (by rw [h.has]; simp [e]), h.out k e]; rfl

def addK (K : List Int) (k : Int) : List Int := if k ∈ K then K else k :: K

theorem FromIs.put {D : DataW Unit} {K : List Int} {fr : Int → Nat} (h : FromIs D K fr) (hm : IsMap D) (k : Int) {v : Nat} (hv : v < 18446744073709551616) :
    FromIs (D.put (kJ k) (.lit (.int .u64 v))) (addK K k) (fun x => if x = k then v else fr x) := by
  have hmem : ∀ x, x ∈ addK K k ↔ x = k ∨ x ∈ K := fun x => by
    unfold addK
    split
    · rename_i hk
      constructor
      · exact .inr
      · rintro (rfl | hx)
        · exact hk
        · exact hx
    · simp
  refine ⟨?_, fun y => ?_, fun y hy z => ?_, fun y hy => ?_, fun y => ?_⟩
  · unfold addK
    split
    · exact h.nodup
    · rename_i hk
      exact List.nodup_cons.2 ⟨hk, h.nodup⟩
  · by_cases e : y = k
    · subst e
      rw [has_put_same hm (by trivial)]
      simp [hmem]
    · rw [has_put_other (kJ_ne e), h.has y]
      simp [hmem, e]
  · by_cases e : y = k
    · subst e
      simpa using atKey_put_same hm (by trivial) _ z
    · rw [atKey_put_other (kJ_ne e)]
      have := ((hmem y).1 hy).resolve_left e
      simpa [e] using h.at_ y this z
  · have : y ≠ k ∧ y ∉ K := by rw [hmem] at hy; exact ⟨fun e => hy (.inl e), fun e => hy (.inr e)⟩
    simp [this.1, h.out y this.2]
  · split
    · exact hv
    · exact h.lt y

/-- All bells that are anybody's to ring. -/
def orAll (K : List Int) (fr : Int → Nat) : Nat := K.foldr (fun k a => fr k ||| a) 0

theorem orAll_perm {K K' : List Int} (fr : Int → Nat) (h : K.Perm K') : orAll K fr = orAll K' fr := by
  unfold orAll
  induction h with
  | nil => rfl
  | cons x _ ih => simp only [List.foldr_cons, ih]
  | swap x y l => simp only [List.foldr_cons]; rw [← Nat.or_assoc, ← Nat.or_assoc, Nat.or_comm (fr y)]
  | trans _ _ ih1 ih2 => exact ih1.trans ih2

theorem orAll_lt {K : List Int} {fr : Int → Nat} (h : ∀ k, fr k < 18446744073709551616) : orAll K fr < 18446744073709551616 := by
  unfold orAll
  induction K with
  | nil => show 0 < 18446744073709551616; decide
  | cons k K ih => simp only [List.foldr_cons]; exact Nat.or_lt_two_pow (n := 64) (h k) ih

structure SetAt (w : World) (e : BSet) : Prop where
  from_ : w.cell? ⟨e.S, 0, none⟩ = some (.map (some e.f))
  rung : w.cell? ⟨e.S, 1, none⟩ = some (.int .u64 e.rung)
  fresh : w.cell? ⟨e.S, 2, none⟩ = some (.bool e.fresh)
  fz1 : w.frozen? ⟨e.S, 1, none⟩ = false
  fz2 : w.frozen? ⟨e.S, 2, none⟩ = false
  lt : e.S < w.heap.size
  own : ∃ D : DataW Unit, w.ownsMap Try.prog 3 (plainElem Try.prog 23) e.f e.n D ∧ FromIs D e.K e.fr
  rlt : e.rung < 18446744073709551616

theorem SetAt.kept {w w' : World} {e : BSet} {l : List Nat} (h : SetAt w e) (hg : GrowBut w w' l) (h1 : e.S ∉ l) (h2 : e.f ∉ l) : SetAt w' e := by
  obtain ⟨D, hown, hD⟩ := h.own
  exact ⟨hg.cell h.from_ h1, hg.cell h.rung h1, hg.cell h.fresh h1, hg.frozen h.lt h.fz1 h1, hg.frozen h.lt h.fz2 h1, Nat.lt_of_lt_of_le h.lt hg.size, ⟨D, hg.map hown h2, hD⟩, h.rlt⟩

/-- Bells are at B. -/
structure BellsAt (w : World) (B b n : Nat) (l : List BSet) : Prop where
  ptr : w.cell? ⟨B, 0, none⟩ = some (.map (some b))
  lt : B < w.heap.size
  ne : B ≠ b
  own : ∃ D : DataW Value, w.ownsMap Try.prog 3 ptrR b n D ∧ (∀ e ∈ l, ∀ z, D.atKey (kJ e.who) z = .held (.pointer (some ⟨e.S, 0, none⟩))) ∧ ∀ k, Maps.has D (kJ k) = decide (k ∈ l.map BSet.who)
  sets : ∀ e ∈ l, SetAt w e
  whos : (l.map BSet.who).Nodup
  sep1 : ∀ e ∈ l, ∀ e' ∈ l, e.who ≠ e'.who → e.S ≠ e'.S ∧ e.f ≠ e'.f
  sep2 : ∀ e ∈ l, ∀ e' ∈ l, e.S ≠ e'.f
  sep3 : ∀ e ∈ l, e.S ≠ B ∧ e.S ≠ b ∧ e.f ≠ B ∧ e.f ≠ b

theorem BellsAt.kept {w w' : World} {B b n : Nat} {l : List BSet} {t : List Nat} (h : BellsAt w B b n l) (hg : GrowBut w w' t) (h1 : B ∉ t) (h2 : b ∉ t) (h3 : ∀ e ∈ l, e.S ∉ t ∧ e.f ∉ t) : BellsAt w' B b n l := by
  obtain ⟨D, hown, hD⟩ := h.own
  exact ⟨hg.cell h.ptr h1, Nat.lt_of_lt_of_le h.lt hg.size, h.ne, ⟨D, hg.map hown h2, hD⟩, fun e he => (h.sets e he).kept hg (h3 e he).1 (h3 e he).2, h.whos, h.sep1, h.sep2, h.sep3⟩

theorem BellsAt.blt {w : World} {B b n : Nat} {l : List BSet} (h : BellsAt w B b n l) : b < w.heap.size := by
  obtain ⟨D, hown, hD⟩ := h.own
  exact hown.lt

theorem BellsAt.same {w : World} {B b n : Nat} {l : List BSet} (h : BellsAt w B b n l) {e e' : BSet} (he : e ∈ l) (he' : e' ∈ l) (hw : e.who = e'.who) : e = e' := by
  obtain ⟨i, hi, rfl⟩ := List.getElem_of_mem he
  obtain ⟨j, hj, rfl⟩ := List.getElem_of_mem he'
  have hnd := List.pairwise_iff_getElem.1 h.whos
  have : i = j := by
    rcases Nat.lt_trichotomy i j with h1 | h1 | h1
    · exact absurd (by rw [List.getElem_map, List.getElem_map]; exact hw) (hnd i j (by simpa using hi) (by simpa using hj) h1)
    · exact h1
    · exact absurd (by rw [List.getElem_map, List.getElem_map]; exact hw.symm) (hnd j i (by simpa using hj) (by simpa using hi) h1)
  subst this
  rfl

/-- One's bells turned. -/
def updB (l : List BSet) (who : Int) (g : BSet → BSet) : List BSet := l.map fun e => if e.who = who then g e else e

theorem updB_whos (l : List BSet) (who : Int) (g : BSet → BSet) (hg : ∀ e, (g e).who = e.who) : (updB l who g).map BSet.who = l.map BSet.who := by
  unfold updB
  rw [List.map_map]
  refine List.map_congr_left fun e _ => ?_
  simp only [Function.comp]
  split
  · exact hg e
  · rfl

theorem mem_updB {l : List BSet} {who : Int} {g : BSet → BSet} {x : BSet} (h : x ∈ updB l who g) : ∃ e ∈ l, x = if e.who = who then g e else e := by
  obtain ⟨e, he, rfl⟩ := List.mem_map.1 h
  exact ⟨e, he, rfl⟩

theorem BellsAt.upd {w w' : World} {B b n : Nat} {l : List BSet} {t : List Nat} (h : BellsAt w B b n l) {e : BSet} (he : e ∈ l) (g : BSet → BSet) (hgw : ∀ e, (g e).who = e.who ∧ (g e).S = e.S ∧ (g e).f = e.f)
    (hg : GrowBut w w' t) (ht : ∀ x ∈ t, x = e.S ∨ x = e.f ∨ w.heap.size ≤ x) (hs : SetAt w' (g e)) : BellsAt w' B b n (updB l e.who g) := by
  have h3 := h.sep3 e he
  have hB : B ∉ t := fun hx => by rcases ht _ hx with h1 | h1 | h1; exact h3.1 h1.symm; exact h3.2.2.1 h1.symm; have := h.lt; omega
  have hb : b ∉ t := fun hx => by rcases ht _ hx with h1 | h1 | h1; exact h3.2.1 h1.symm; exact h3.2.2.2 h1.symm; have := h.blt; omega
  obtain ⟨D, hown, hat, hhas⟩ := h.own
  have hproj : ∀ x ∈ updB l e.who g, ∃ y ∈ l, x.who = y.who ∧ x.S = y.S ∧ x.f = y.f := fun x hx => by
    obtain ⟨y, hy, rfl⟩ := mem_updB hx
    refine ⟨y, hy, ?_⟩
    split
    · exact hgw y
    · exact ⟨rfl, rfl, rfl⟩
  refine ⟨hg.cell h.ptr hB, Nat.lt_of_lt_of_le h.lt hg.size, h.ne, ⟨D, hg.map hown hb, fun x hx z => ?_, fun k => ?_⟩, fun x hx => ?_, ?_, fun x hx x' hx' hne => ?_, fun x hx x' hx' => ?_, fun x hx => ?_⟩
  · obtain ⟨y, hy, e1, e2, e3⟩ := hproj x hx
    rw [e1, e2]
    exact hat y hy z
  · rw [updB_whos _ _ _ fun e => (hgw e).1]
    exact hhas k
  · obtain ⟨y, hy, rfl⟩ := mem_updB hx
    split
    · rename_i ew
      rw [h.same hy he ew]
      exact hs
    · rename_i ew
      have h1 := h.sep1 y hy e he ew
      have h2 := h.sep2 y hy e he
      have h2' := h.sep2 e he y hy
      obtain ⟨D', hown', _⟩ := (h.sets y hy).own
      exact (h.sets y hy).kept hg (fun hm => by rcases ht _ hm with h4 | h4 | h4; exact h1.1 h4; exact h2 h4; have := (h.sets y hy).lt; omega) (fun hm => by rcases ht _ hm with h4 | h4 | h4; exact h2' h4.symm; exact h1.2 h4; have := hown'.lt; omega)
  · rw [updB_whos _ _ _ fun e => (hgw e).1]
    exact h.whos
  · obtain ⟨y, hy, e1, e2, e3⟩ := hproj x hx
    obtain ⟨y', hy', e1', e2', e3'⟩ := hproj x' hx'
    rw [e2, e3, e2', e3']
    exact h.sep1 y hy y' hy' (by rw [← e1, ← e1']; exact hne)
  · obtain ⟨y, hy, e1, e2, e3⟩ := hproj x hx
    obtain ⟨y', hy', e1', e2', e3'⟩ := hproj x' hx'
    rw [e2, e3']
    exact h.sep2 y hy y' hy'
  · obtain ⟨y, hy, e1, e2, e3⟩ := hproj x hx
    rw [e2, e3]
    exact h.sep3 y hy

/-! ### The methods -/
set_option maxRecDepth 100000 in
set_option maxHeartbeats 2000000 in
theorem ofB_calls (B b n : Nat) (l : List BSet) (e : BSet) (w : World) (h : BellsAt w B b n l) (he : e ∈ l) (hk : (Lit.int .i64 e.who).wf = true) :
    Calls Try.prog 160 #[.pointer (some ⟨B, 0, none⟩), .int .i64 e.who] w fun r w' => r = .returned (.pointer (some ⟨e.S, 0, none⟩)) ∧ w' = w := by
  obtain ⟨D, hown, hat, hhas⟩ := h.own
  have hptr := h.ptr
  obtain ⟨v, ps, hrun, hv⟩ := hown.lookup law3K Try.underlying192 (zeroP w) (zd := .held (.pointer none)) (zp := []) rfl (keyJ hk)
  rw [hat e he] at hv
  obtain ⟨_, hv, _⟩ := ptrR_inv hv
  cases hv
  generalize e.who = who at hk hrun ⊢
  generalize e.S = S at hrun ⊢
  go_enter Try.func160, Try.ntmps160
  go_wp2_with go_in
  go_ret
  exact ⟨rfl, rfl⟩

set_option maxRecDepth 100000 in
set_option maxHeartbeats 2000000 in
theorem ofB_none (B b n : Nat) (l : List BSet) (who : Int) (w : World) (h : BellsAt w B b n l) (he : who ∉ l.map BSet.who) (hk : (Lit.int .i64 who).wf = true) :
    Calls Try.prog 160 #[.pointer (some ⟨B, 0, none⟩), .int .i64 who] w fun r w' => r = .returned (.pointer none) ∧ w' = w := by
  obtain ⟨D, hown, hat, hhas⟩ := h.own
  have hptr := h.ptr
  obtain ⟨v, ps, hrun, hv⟩ := hown.lookup law3K Try.underlying192 (zeroP w) (zd := .held (.pointer none)) (zp := []) rfl (keyJ hk)
  rw [atKey_of_not_has (by rw [hhas]; simpa using he)] at hv
  obtain ⟨_, hv, _⟩ := ptrR_inv hv
  cases hv
  go_enter Try.func160, Try.ntmps160
  go_wp2_with go_in
  go_ret
  exact ⟨rfl, rfl⟩

theorem cellJ_same {w : World} {B i : Nat} {x v : Value} (h : w.cell? ⟨B, i, none⟩ = some x) : (w.setCell ⟨B, i, none⟩ v).cell? ⟨B, i, none⟩ = some v := by
  go_simp

theorem cellJ_off {w : World} {B i j : Nat} {x v : Value} (h : w.cell? ⟨B, i, none⟩ = some x) (hne : i ≠ j) : (w.setCell ⟨B, j, none⟩ v).cell? ⟨B, i, none⟩ = some x := by
  have hne' : ¬ j = i := fun e => hne e.symm
  go_simp

theorem frozenJ {w : World} {B i j : Nat} {v : Value} : (w.setCell ⟨B, j, none⟩ v).frozen? ⟨B, i, none⟩ = w.frozen? ⟨B, i, none⟩ := by
  go_simp

/-- The two cells of one's bells turned. -/
theorem SetAt.turned {w : World} {e : BSet} (h : SetAt w e) (hf : e.S ≠ e.f) {r : Nat} (hr : r < 18446744073709551616) (fr : Bool) :
    SetAt ((w.setCell ⟨e.S, 1, none⟩ (.int .u64 r)).setCell ⟨e.S, 2, none⟩ (.bool fr)) { e with rung := r, fresh := fr } ∧ GrowBut w ((w.setCell ⟨e.S, 1, none⟩ (.int .u64 r)).setCell ⟨e.S, 2, none⟩ (.bool fr)) [e.S] := by
  have hG : GrowBut w ((w.setCell ⟨e.S, 1, none⟩ (.int .u64 r)).setCell ⟨e.S, 2, none⟩ (.bool fr)) [e.S] := (GrowBut.setCell w ⟨e.S, 1, none⟩ _).trans (GrowBut.setCell _ ⟨e.S, 2, none⟩ _)
  obtain ⟨D, hown, hD⟩ := h.own
  refine ⟨⟨?_, ?_, ?_, ?_, ?_, by simpa using h.lt, ⟨D, hG.map hown (by simpa using fun e' => hf e'.symm), hD⟩, hr⟩, hG⟩
  · exact cellJ_off (cellJ_off h.from_ (by decide)) (by decide)
  · exact cellJ_off (cellJ_same h.rung) (by decide)
  · exact cellJ_same (cellJ_off h.fresh (by decide))
  · rw [frozenJ, frozenJ]; exact h.fz1
  · rw [frozenJ, frozenJ]; exact h.fz2

set_option maxRecDepth 100000 in
set_option maxHeartbeats 2000000 in
theorem hear_calls (B b n : Nat) (l : List BSet) (e : BSet) (w : World) (h : BellsAt w B b n l) (he : e ∈ l) (hk : (Lit.int .i64 e.who).wf = true) :
    Calls Try.prog 65 #[.pointer (some ⟨B, 0, none⟩), .int .i64 e.who] w fun r w' => r = .returned (.tuple #[.int .u64 e.rung, .int .i64 0]) ∧ BellsAt w' B b n (updB l e.who fun e => { e with rung := 0, fresh := false }) ∧ GrowBut w w' [e.S] := by
  have hO := ofB_calls B b n l e w h he hk
  have hS := h.sets e he
  have ht := hS.turned (h.sep2 e he e he) (r := 0) (by decide) false
  have hu := fun w' => h.upd (w' := w') he (fun e => { e with rung := 0, fresh := false }) (fun e => ⟨rfl, rfl, rfl⟩) (t := [e.S])
  obtain ⟨c0, c1, c2, f1, f2, hlt, _, _⟩ := hS
  generalize hee : e.who = who at hk hO ⊢
  generalize hes : e.S = S at hO c0 c1 c2 f1 f2 hlt ⊢
  generalize e.rung = rg at c1 ⊢
  go_enter Try.func65, Try.ntmps65
  go_wp2_with (first
    | (go_at_call 160; refine hO.mono ?_; rintro r w1 ⟨rfl, hw1⟩; rw [hw1]; clear hw1 w1)
    | go_in)
  go_ret2
  subst hee hes
  exact ⟨rfl, hu _ ht.2 (by simp) ht.1, ht.2⟩

set_option maxRecDepth 100000 in
set_option maxHeartbeats 2000000 in
theorem ring_calls (B b n : Nat) (l : List BSet) (e : BSet) (from_ : Int) (bits : Nat) (w : World) (h : BellsAt w B b n l) (he : e ∈ l) (hk : (Lit.int .i64 e.who).wf = true) (hf : (Lit.int .i64 from_).wf = true) (hb : bits < 18446744073709551616) (h0 : bits ≠ 0)
    (hin : bits &&& (18446744073709551615 - e.fr from_) = 0) :
    Calls Try.prog 63 #[.pointer (some ⟨B, 0, none⟩), .int .i64 e.who, .int .i64 from_, .int .u64 bits] w fun r w' => r = .returned (.int .i64 0) ∧ BellsAt w' B b n (updB l e.who fun e => { e with rung := e.rung ||| bits, fresh := true }) ∧ GrowBut w w' [e.S] := by
  have hO := ofB_calls B b n l e w h he hk
  have hS := h.sets e he
  have hor : e.rung ||| bits < 18446744073709551616 := Nat.or_lt_two_pow (n := 64) hS.rlt hb
  have ht := hS.turned (h.sep2 e he e he) (r := e.rung ||| bits) hor true
  have hu := fun w' => h.upd (w' := w') he (fun e => { e with rung := e.rung ||| bits, fresh := true }) (fun e => ⟨rfl, rfl, rfl⟩) (t := [e.S])
  obtain ⟨c0, c1, c2, f1, f2, hlt, ⟨D, hown, hD⟩, hrl⟩ := hS
  obtain ⟨c, hrun, hat, hwc⟩ := hown.lookup_int law3K Try.underlying200 Try.underlying23 (zeroU w) (keyJ hf)
  rw [hD.atKey] at hat
  obtain rfl : (e.fr from_ : Int) = c := by simpa using hat
  have hfl := hD.lt from_
  have hB0 : ¬ (bits : Int) = 0 := by omega
  generalize hee : e.who = who at hk hO ⊢
  generalize hes : e.S = S at hO c0 c1 c2 f1 f2 hlt ⊢
  generalize e.f = f at c0 hrun
  generalize e.fr from_ = ff at hrun hin hfl
  generalize hrg : e.rung = rg at c1 hor hrl
  have hN := u64_andNot_nat bits ff hb hfl
  rw [hin] at hN
  have hR := u64_or_nat rg bits hrl hb
  go_enter Try.func63, Try.ntmps63
  go_wp2_with (first
    | (go_at_call 160; refine hO.mono ?_; rintro r w1 ⟨rfl, hw1⟩; rw [hw1]; clear hw1 w1)
    | go_in)
  go_ret
  subst hee hes hrg
  exact ⟨rfl, hu _ ht.2 (by simp) ht.1, ht.2⟩

/-! ### News -/
theorem infoJ : (Try.prog.info? 3).map (fun i => (i.zero, i.size, i.bytes)) = some (some (.int .i64 0), 1, 8) := by kernel_rfl

theorem sortRow {w : World} {base : Nat} {v : Value} {ss : List Int} (hrow : w.ownsRow base 3 1 v ss.length (ss.map encZ)) (hlen : ss.length < 1000000) :
    Calls Try.prog 164 #[v] w fun e w' => e = .returned (.tuple #[]) ∧ w'.ownsRow base 3 1 v ss.length ((ss.mergeSort (fun x y => decide (x ≤ y))).map encZ) ∧ w.grownBy w' v.ownBlock := by
  rcases hrow.2 with ⟨rfl, hz⟩ | ⟨gb, cap, cur, rfl, hbase, hgb, r1, r2, r3, r4⟩
  · have hss : ss = [] := List.eq_nil_of_length_eq_zero hz
    subst hss
    exact (AnyM.slices_Sort_int_none Try.sortP none 0 w).mono fun e w' ⟨he, hw⟩ => ⟨he, by rw [hw]; simpa using hrow, by rw [hw]; exact World.grownBy.refl _ _⟩
  · have hH : Holds encZ w gb 0 ss.toArray := holds_of_block_i hgb (by simpa using r4)
    have hgl : gb < w.heap.size := (Array.getElem?_eq_some_iff.1 hgb).1
    refine (AnyM.slices_Sort_int Try.sortP gb 0 cap ss w hH hgl (by omega)).mono fun e w' ⟨he, nn, os, hw⟩ => ⟨he, ?_, ?_⟩
    · rw [hw]; exact ownsRow_sorted_i (by simp) hbase hgb r1 r2 r3
    · rw [hw]; exact grownBy_sorted_i _

/-- What was met so far that was not told of. -/
def CollF (l : List BSet) (left : Lit → Bool) (ss : List Int) : Prop := ss.Nodup ∧ ∀ x, x ∈ ss ↔ ∃ e ∈ l, e.who = x ∧ e.fresh = true ∧ left (kJ x) = false

theorem SetAt.hushed {w : World} {e : BSet} (h : SetAt w e) (hf : e.S ≠ e.f) (fr : Bool) : SetAt (w.setCell ⟨e.S, 2, none⟩ (.bool fr)) { e with fresh := fr } ∧ GrowBut w (w.setCell ⟨e.S, 2, none⟩ (.bool fr)) [e.S] := by
  have hG : GrowBut w (w.setCell ⟨e.S, 2, none⟩ (.bool fr)) [e.S] := GrowBut.setCell _ ⟨e.S, 2, none⟩ _
  obtain ⟨D, hown, hD⟩ := h.own
  refine ⟨⟨?_, ?_, ?_, ?_, ?_, by simpa using h.lt, ⟨D, hG.map hown (by simpa using fun e' => hf e'.symm), hD⟩, h.rlt⟩, hG⟩
  · exact cellJ_off h.from_ (by decide)
  · exact cellJ_off h.rung (by decide)
  · exact cellJ_same h.fresh
  · rw [frozenJ]; exact h.fz1
  · rw [frozenJ]; exact h.fz2

theorem BellsAt.all {w w' : World} {B b n : Nat} {l : List BSet} {t : List Nat} (h : BellsAt w B b n l) (g : BSet → BSet) (hgw : ∀ e, (g e).who = e.who ∧ (g e).S = e.S ∧ (g e).f = e.f)
    (hg : GrowBut w w' t) (hB : B ∉ t) (hb : b ∉ t) (hs : ∀ e ∈ l, SetAt w' (g e)) : BellsAt w' B b n (l.map g) := by
  obtain ⟨D, hown, hat, hhas⟩ := h.own
  have hwho : (l.map g).map BSet.who = l.map BSet.who := by
    rw [List.map_map]
    exact List.map_congr_left fun e _ => (hgw e).1
  refine ⟨hg.cell h.ptr hB, Nat.lt_of_lt_of_le h.lt hg.size, h.ne, ⟨D, hg.map hown hb, fun x hx z => ?_, fun k => ?_⟩, fun x hx => ?_, ?_, fun x hx x' hx' hne => ?_, fun x hx x' hx' => ?_, fun x hx => ?_⟩
  · obtain ⟨y, hy, rfl⟩ := List.mem_map.1 hx
    rw [(hgw y).1, (hgw y).2.1]
    exact hat y hy z
  · rw [hwho]; exact hhas k
  · obtain ⟨y, hy, rfl⟩ := List.mem_map.1 hx
    exact hs y hy
  · rw [hwho]; exact h.whos
  · obtain ⟨y, hy, rfl⟩ := List.mem_map.1 hx
    obtain ⟨y', hy', rfl⟩ := List.mem_map.1 hx'
    rw [(hgw y).2.1, (hgw y).2.2, (hgw y').2.1, (hgw y').2.2]
    exact h.sep1 y hy y' hy' (by rw [← (hgw y).1, ← (hgw y').1]; exact hne)
  · obtain ⟨y, hy, rfl⟩ := List.mem_map.1 hx
    obtain ⟨y', hy', rfl⟩ := List.mem_map.1 hx'
    rw [(hgw y).2.1, (hgw y').2.2]
    exact h.sep2 y hy y' hy'
  · obtain ⟨y, hy, rfl⟩ := List.mem_map.1 hx
    rw [(hgw y).2.1, (hgw y).2.2]
    exact h.sep3 y hy

/-- One's bells, as long as they are left to be looked at. -/
abbrev lookedAt (left : Lit → Bool) (e : BSet) : BSet := { e with fresh := e.fresh && left (kJ e.who) }

theorem lookedAt_ne {left : Lit → Bool} {e e' : BSet} (hne : e'.who ≠ e.who) : lookedAt (fun z => left z && !z.sameKey (kJ e.who)) e' = lookedAt left e' := by
  unfold lookedAt
  dsimp only
  have : (kJ e'.who).sameKey (kJ e.who) = false := by simp [Lit.sameKey, hne]
  rw [this]
  simp

theorem lookedAt_self {left : Lit → Bool} {e : BSet} : lookedAt (fun z => left z && !z.sameKey (kJ e.who)) e = { e with fresh := false } := by
  unfold lookedAt
  dsimp only
  have : (kJ e.who).sameKey (kJ e.who) = true := by simp [Lit.sameKey]
  rw [this]
  simp

theorem CollF.step {l : List BSet} {left : Lit → Bool} {ss : List Int} (h : CollF l left ss) {e : BSet} (he : e ∈ l) (hf : e.fresh = true) (hl : left (kJ e.who) = true) : CollF l (fun z => left z && !z.sameKey (kJ e.who)) (ss ++ [e.who]) := by
  have hnew : e.who ∉ ss := fun hx => by obtain ⟨_, _, hw, _, h2⟩ := (h.2 _).1 hx; rw [hl] at h2; cases h2
  refine ⟨List.nodup_append.2 ⟨h.1, by simp, fun a ha b hb => by simp at hb; subst hb; exact fun e' => hnew (e' ▸ ha)⟩, fun y => ?_⟩
  by_cases hy : y = e.who
  · subst hy
    constructor
    · intro _; exact ⟨e, he, rfl, hf, by simp [Lit.sameKey, kJ]⟩
    · intro _; simp
  · simp [h.2 y, hy, Lit.sameKey, kJ]

theorem CollF.stays {l : List BSet} {left : Lit → Bool} {ss : List Int} (h : CollF l left ss) {e : BSet} (hs : ∀ e' ∈ l, e'.who = e.who → e'.fresh = false) (hl : left (kJ e.who) = true) : CollF l (fun z => left z && !z.sameKey (kJ e.who)) ss := by
  refine ⟨h.1, fun y => ?_⟩
  by_cases hy : y = e.who
  · subst hy
    constructor
    · intro hm; obtain ⟨_, _, hw, _, h2⟩ := (h.2 _).1 hm; rw [hl] at h2; cases h2
    · rintro ⟨e', he', hw, hf, _⟩; rw [hs e' he' hw] at hf; cases hf
  · simp [h.2 y, hy, Lit.sameKey, kJ]

theorem GrowBut.of_row {a b : World} {o : Option Nat} (h : a.grownBy b o) : GrowBut a b o.toList :=
  ⟨h.os, h.tape, h.output, h.size, fun j hj hn => h.block j hj (fun e => hn (by rw [← e]; simp))⟩

theorem GrowBut.one {a b : World} {m : Nat} (h : GrowBut a b [m]) : a.grownBy b (some m) :=
  ⟨h.os, h.tape, h.output, h.size, fun j hj hn => h.block j hj (fun e => hn (by simp at e; simp [e]))⟩

set_option maxRecDepth 100000 in
set_option maxHeartbeats 4000000 in
theorem news_calls (B b n : Nat) (l : List BSet) (w : World) (h : BellsAt w B b n l) (hn : n ≤ 1000) (hwf : ∀ e ∈ l, (Lit.int .i64 e.who).wf = true) :
    Calls Try.prog 67 #[.pointer (some ⟨B, 0, none⟩)] w fun r w' => ∃ (v : Value) (ss : List Int), r = .returned v ∧ ss.Perm ((l.filter BSet.fresh).map BSet.who) ∧ w'.ownsRow w.heap.size 3 1 v ss.length ((ss.mergeSort (fun x y => decide (x ≤ y))).map encZ) ∧
      BellsAt w' B b n (l.map fun e => { e with fresh := false }) ∧ GrowBut w w' (l.map BSet.S) := by
  obtain ⟨D, hown, hat, hhas⟩ := h.own
  have hptr := h.ptr
  have hBl := h.lt
  have hbl := hown.lt
  have hDn := hown.size_le
  obtain ⟨i0, hi, hz0, hz1, hz2⟩ := info_parts infoJ
  go_enter Try.func67, Try.ntmps67
  go_wp2_with (first
    | (at_range; refine wpList_range_own _ rfl _ 192 rfl 3 198 law3K Try.underlying192 _ b n _ rfl hown ?_; intro w0 hrg0 hg0 hs0)
    | go_in)
  go_frame
  have hG0 : GrowBut w w0 (l.map BSet.S) := .of_none hg0
  go_loopw [2] (fun v wr => ∃ (left : Lit → Bool) (cnt : Nat) (ss : List Int), wr.ranges Try.prog 3 ptrR b w.heap.size n D left cnt ∧ ss.length + cnt ≤ Maps.size D ∧
      wr.ownsRow w.heap.size 3 1 v ss.length (ss.map encZ) ∧ CollF l left ss ∧ (∀ e ∈ l, SetAt wr (lookedAt left e)) ∧ GrowBut w wr (l.map BSet.S))
    (fun _ wr => wr.rangeLeft b w.heap.size)
  case atStart =>
    refine ⟨_, _, [], hrg0, by simp, World.ownsRow_nil _ _ _ _, ⟨List.nodup_nil, fun x => ⟨fun hx => (by cases hx), fun ⟨e, he, hw, _, hl⟩ => ?_⟩⟩, fun e he => ?_, hG0⟩
    · rw [← hw, hhas] at hl
      have : e.who ∈ l.map BSet.who := List.mem_map_of_mem he
      simp [this] at hl
    · have : e.who ∈ l.map BSet.who := List.mem_map_of_mem he
      have e1 : lookedAt (Maps.has D) e = e := by unfold lookedAt; rw [hhas]; simp [this]
      rw [e1]
      exact (h.sets e he).kept (.of_none (l := []) hg0) (by simp) (by simp)
  case round =>
    obtain ⟨left, cnt, ss, hrg, hcs, hrow, hC, hsets, hG⟩ := hrel
    go_wp2_with (first
      | (at_next; refine wpList_next_ranges _ rfl _ rfl 3 law3K ptrR (Value.int .i64) Value.pointer (fun key kl hk => by obtain ⟨x, hx, _⟩ := Maps.keyOf_int_inv Try.underlying3 hk; exact ⟨x, hx⟩) (fun v y hv => by obtain ⟨⟨p, rfl⟩, _⟩ := ptrR_inv (v := v) (d := y.1) (ps := y.2) hv; exact ⟨p, rfl⟩) b w.heap.size n _ _ _ rfl hrg ?_ ?_)
      | go_in)
    · intro hc0 hl0
      have hsrt := sortRow hrow (by omega)
      go_wp2_with (first | (go_at_call 164; refine hsrt.mono ?_; rintro r w3 ⟨rfl, hrow3, hg3⟩) | go_in)
      go_ret
      have hoth : ∀ x ∈ u2.ownBlock.toList, w.heap.size ≤ x := fun x hx => (hrow.lt x (by simpa using hx)).1
      have hG3 := GrowBut.of_row hg3
      have hGw := hG.from hG3 (fun x hx => .inr (hoth x hx))
      refine ⟨_, ss, rfl, ?_, hrow3, h.all (fun e => { e with fresh := false }) (fun e => ⟨rfl, rfl, rfl⟩) hGw (fun hm => ?_) (fun hm => ?_) (fun e he => ?_), hGw⟩
      · refine (List.perm_ext_iff_of_nodup hC.1 (List.Nodup.sublist (List.Sublist.map _ List.filter_sublist) h.whos)).2 fun x => ?_
        rw [hC.2 x, List.mem_map]
        constructor
        · rintro ⟨e, he, hw, hf, _⟩; exact ⟨e, List.mem_filter.2 ⟨he, hf⟩, hw⟩
        · rintro ⟨e, he, hw⟩; exact ⟨e, (List.mem_filter.1 he).1, hw, (List.mem_filter.1 he).2, hl0 _⟩
      · obtain ⟨e, he, e1⟩ := List.mem_map.1 hm; exact (h.sep3 e he).1 e1
      · obtain ⟨e, he, e1⟩ := List.mem_map.1 hm; exact (h.sep3 e he).2.1 e1
      · have hS := hsets e he
        have e1 : lookedAt left e = { e with fresh := false } := by unfold lookedAt; rw [hl0]; simp
        rw [e1] at hS
        obtain ⟨D', hown', _⟩ := (h.sets e he).own
        exact hS.kept hG3 (fun hm => by have := hoth _ hm; have := (h.sets e he).lt; simp at *; omega) (fun hm => by have := hoth _ hm; have := hown'.lt; simp at *; omega)
    · intro x c kl yd yp w2 cnt2 hkey hlk hv hat2 hrg2 hlt hg2 hs2 hen
      obtain ⟨x', ex, rfl, hwx⟩ := Maps.keyOf_int_inv Try.underlying3 hkey
      cases ex
      have hin : x ∈ l.map BSet.who := by simpa using (hhas x).symm.trans (has_true_of_atKey hat2)
      obtain ⟨e, he, rfl⟩ := List.mem_map.1 hin
      obtain rfl : c = some ⟨e.S, 0, none⟩ := by
        have h1 := hat e he .nil
        rw [hat2] at h1
        cases hv
        simpa using h1
      clear hat2 hv hkey hin
      have hlt0 := (h.sets e he).lt
      obtain ⟨D', hown', _⟩ := (h.sets e he).own
      have hltf := hown'.lt
      have hrow2 := hrow.kept hg2 (Or.inr (row_ne_iter hrow hrg).symm)
      have hG2 := GrowBut.of_some hg2
      have hGw2 := hG.from hG2 (fun x hx => .inr (by simp at hx; omega))
      have hsets2 : ∀ e' ∈ l, SetAt w2 (lookedAt left e') := fun e' he' => by
        obtain ⟨D'', hown'', _⟩ := (h.sets e' he').own
        exact (hsets e' he').kept hG2 (by have := (h.sets e' he').lt; simp; omega) (by have := hown''.lt; simp; omega)
      have hSe : SetAt w2 e := by
        have := hsets2 e he
        have e1 : lookedAt left e = e := by unfold lookedAt; rw [hlk]; simp
        rwa [e1] at this
      have c2 := hSe.fresh
      have f2 := hSe.fz2
      have hsame : ∀ e' ∈ l, e'.who = e.who → e' = e := fun e' he' hw => h.same he' he hw
      by_cases hfr : e.fresh = true
      · obtain ⟨hh1, hh2⟩ := hSe.hushed (h.sep2 e he e he) false
        have hrow3 := hh2.row hrow2 (fun j hj => by have := (hrow2.lt j hj).1; simp; omega)
        have hrg3 := hrg2.kept hh2.one (by simpa using fun e' => (h.sep3 e he).2.1 e'.symm) (by simp; omega)
        have hGw3 := hGw2.trans (hh2.mono (l' := l.map BSet.S) (fun x hx => by simp at hx; subst hx; exact List.mem_map_of_mem he))
        rw [hfr] at c2
        go_upto_region 8 with go_in
        have hsz : (w2.setCell ⟨e.S, 2, none⟩ (.bool false)).heap.size = w2.heap.size := by simp
        have hsets3 : ∀ e' ∈ l, SetAt (w2.setCell ⟨e.S, 2, none⟩ (.bool false)) (lookedAt (fun z => left z && !z.sameKey (kJ e.who)) e') := fun e' he' => by
          by_cases hw : e'.who = e.who
          · rw [hsame e' he' hw, lookedAt_self]; exact hh1
          · rw [lookedAt_ne hw]
            have h1 := h.sep1 e' he' e he hw
            have h2 := h.sep2 e he e' he'
            exact (hsets2 e' he').kept hh2 (by simpa using h1.1) (by simpa using fun e'' => h2 e''.symm)
        generalize w2.setCell ⟨e.S, 2, none⟩ (.bool false) = w3 at hrow3 hrg3 hGw3 hsets3 hsz ⊢
        clear hh1 hh2 hsets2 hsets hSe hsz hs2
        go_wp2_with (first
          | (at_builtin; refine wpList_append_own _ rfl _ _ 55 rfl w.heap.size 3 i0 (.int .i64 0) 1 8 Try.underlying55 hi hz0 hz1 hz2 rfl (by decide) _ _ _ rfl (hrow3.alloc _) ⟨w3.heap.size, 0, none⟩ 1 1 [.int .i64 e.who] rfl rfl (cell_one_new _ _ _) (by simp [Value.oneCell']) (by unfold maxLen at *; omega) (by omega) (by have := hGw3.size; simp; omega) ?_; intro v' w4 hown4 hg4 hnil4; go_frame)
          | go_in)
        have hoth : ∀ x ∈ u2.ownBlock.toList, w.heap.size ≤ x := fun x hx => (hrow3.lt x (by simpa using hx)).1
        have hG4 := (GrowBut.alloc w3 (.cells #[.int .i64 e.who] 3) _).trans (GrowBut.of_row (o := u2.ownBlock) hg4)
        have hrg4 := (hrg3.alloc (.cells #[.int .i64 e.who] 3)).kept hg4 (row_ne_low hrow3 hbl) (row_ne_iter hrow3 hrg3)
        refine ⟨⟨_, cnt2, ss ++ [e.who], hrg4, by simp; omega, by simpa using hown4, hC.step he hfr hlk, fun e' he' => ?_, hGw3.from hG4 (fun x hx => .inr (hoth x hx))⟩, by rw [hrg4.left_eq, hrg.left_eq]; exact hlt⟩
        obtain ⟨D'', hown'', _⟩ := (h.sets e' he').own
        refine (hsets3 e' he').kept hG4 (fun hm => ?_) (fun hm => ?_)
        · have := hoth _ hm; have := (h.sets e' he').lt; simp at *; omega
        · have := hoth _ hm; have := hown''.lt; simp at *; omega
      · have hfr' : e.fresh = false := by simpa using hfr
        rw [hfr'] at c2
        go_wp2_with go_in
        refine ⟨⟨_, cnt2, ss, hrg2, by omega, hrow2, hC.stays (fun e' he' hw => by rw [hsame e' he' hw]; exact hfr') hlk, fun e' he' => ?_, hGw2⟩, by rw [hrg2.left_eq, hrg.left_eq]; exact hlt⟩
        by_cases hw : e'.who = e.who
        · rw [hsame e' he' hw, lookedAt_self]
          have e1 : ({ e with fresh := false } : BSet) = e := by rw [← hfr']
          rw [e1]
          exact hSe
        · rw [lookedAt_ne hw]
          exact hsets2 e' he'

/-! ### New, Make -/
set_option maxRecDepth 100000 in
set_option maxHeartbeats 2000000 in
theorem newBell_calls (w : World) : Calls Try.prog 53 #[] w fun e w' => ∃ B b, e = .returned (.pointer (some ⟨B, 0, none⟩)) ∧ BellsAt w' B b 0 [] ∧ w.heap.size ≤ B ∧ w.heap.size ≤ b ∧ GrowBut w w' [] := by
  go_enter Try.func53, Try.ntmps53
  have hmm := @run_makeMap Try.prog
  go_wp2_with go_in
  clear hmm
  go_ret
  refine ⟨_, _, rfl, ⟨by go_simp, by simp, by simp, ⟨.map [], (World.ownsMap_made w Try.prog 3 ptrR).alloc _, fun e he => (by cases he), fun k => by simp [Maps.has_eq]⟩, fun e he => (by cases he), List.nodup_nil, fun e he => (by cases he), fun e he => (by cases he), fun e he => (by cases he)⟩, by simp, Nat.le_refl _, (GrowBut.alloc w _ []).trans (GrowBut.alloc _ _ [])⟩

/-- New bells of one's own. -/
def newB (who : Int) (S f : Nat) : BSet := ⟨who, S, f, 0, [], fun _ => 0, 0, false⟩

set_option maxRecDepth 100000 in
set_option maxHeartbeats 2000000 in
theorem make_calls (B b n : Nat) (l : List BSet) (who : Int) (w : World) (h : BellsAt w B b n l) (he : who ∉ l.map BSet.who) (hk : (Lit.int .i64 who).wf = true) (hn : n ≤ 1000) :
    Calls Try.prog 55 #[.pointer (some ⟨B, 0, none⟩), .int .i64 who] w fun r w' => r = .returned (.int .i64 0) ∧ ∃ S f, BellsAt w' B b (n + 1) (l ++ [newB who S f]) ∧ w.heap.size ≤ S ∧ w.heap.size ≤ f ∧ GrowBut w w' [b] := by
  have hO := ofB_none B b n l who w h he hk
  obtain ⟨D, hown, hat, hhas⟩ := h.own
  have hptr := h.ptr
  have hbl := hown.lt
  go_enter Try.func55, Try.ntmps55
  have hmm := @run_makeMap Try.prog
  go_wp2_with (first
    | (go_at_call 160; refine hO.mono ?_; rintro r w1 ⟨rfl, hw1⟩; rw [hw1]; clear hw1 w1)
    | (at_mapUpdate; refine wpList_mapUpdate_own _ rfl _ _ _ 192 rfl 3 198 law3K Try.underlying192 ptrR b n D rfl ((hown.alloc _).alloc _) (by unfold maxLen; omega) _ _ (kJ who) rfl rfl (keyJ hk) _ [] rfl ?_; intro w2 hown2 hg2)
    | go_in)
  clear hmm
  go_ret
  have hG2 := GrowBut.of_some hg2
  have hG1 := (GrowBut.alloc w (.map #[] 0) []).trans (GrowBut.alloc _ (.cells #[.map (some w.heap.size), .int .u64 0, .bool false] 202) [])
  have hown2' : w2.ownsMap Try.prog 3 ptrR b (n + 1) (D.put (kJ who) (.held (.pointer (some ⟨w.heap.size + 1, 0, none⟩)))) := hown2
  have hG : GrowBut w w2 [b] := (hG1.mono (fun x hx => nomatch hx)).trans hG2
  have hBl := h.lt
  have hne := h.ne
  have hnewS : SetAt w2 (newB who (w.heap.size + 1) w.heap.size) := by
    have hz1 : ((w.alloc (.map #[] 0)).alloc (.cells #[.map (some w.heap.size), .int .u64 0, .bool false] 202)).frozen? ⟨w.heap.size + 1, 1, none⟩ = false := by go_simp
    have hz2 : ((w.alloc (.map #[] 0)).alloc (.cells #[.map (some w.heap.size), .int .u64 0, .bool false] 202)).frozen? ⟨w.heap.size + 1, 2, none⟩ = false := by go_simp
    have hnb : w.heap.size + 1 ∉ [b] := by simp; omega
    have hlt2 : w.heap.size + 1 < ((w.alloc (.map #[] 0)).alloc (.cells #[.map (some w.heap.size), .int .u64 0, .bool false] 202)).heap.size := by simp
    have hc0 : ((w.alloc (.map #[] 0)).alloc (.cells #[.map (some w.heap.size), .int .u64 0, .bool false] 202)).cell? ⟨w.heap.size + 1, 0, none⟩ = some (.map (some w.heap.size)) := by go_simp
    have hc1 : ((w.alloc (.map #[] 0)).alloc (.cells #[.map (some w.heap.size), .int .u64 0, .bool false] 202)).cell? ⟨w.heap.size + 1, 1, none⟩ = some (.int .u64 0) := by go_simp
    have hc2 : ((w.alloc (.map #[] 0)).alloc (.cells #[.map (some w.heap.size), .int .u64 0, .bool false] 202)).cell? ⟨w.heap.size + 1, 2, none⟩ = some (.bool false) := by go_simp
    exact ⟨hG2.cell hc0 hnb, hG2.cell hc1 hnb, hG2.cell hc2 hnb, hG2.frozen hlt2 hz1 hnb, hG2.frozen hlt2 hz2 hnb, Nat.lt_of_lt_of_le hlt2 hG2.size,
      ⟨.map [], hG2.map ((World.ownsMap_made w Try.prog 3 (plainElem Try.prog 23)).alloc _) (by show w.heap.size ∉ [b]; simp; omega), FromIs.empty⟩, by simp [newB]⟩
  have hold : ∀ e ∈ l, e.S < w.heap.size ∧ e.f < w.heap.size := fun e he => by
    obtain ⟨D', hown', _⟩ := (h.sets e he).own
    exact ⟨(h.sets e he).lt, hown'.lt⟩
  have hmem : ∀ x ∈ l ++ [newB who (w.heap.size + 1) w.heap.size], x ∈ l ∨ x = newB who (w.heap.size + 1) w.heap.size := fun x hx => by simpa using hx
  refine ⟨rfl, w.heap.size + 1, w.heap.size, ⟨hG2.cell (w := (w.alloc _).alloc _) (hG1.cell hptr (by simp)) (by simpa using hne), Nat.lt_of_lt_of_le hBl hG.size, hne, ⟨_, hown2', fun x hx z => ?_, fun k => ?_⟩, fun x hx => ?_, ?_, fun x hx y hy hxy => ?_, fun x hx y hy => ?_, fun x hx => ?_⟩, by omega, Nat.le_refl _, hG⟩
  · rcases hmem x hx with hx | rfl
    · rw [atKey_put_other (kJ_ne fun e => he (by rw [← e]; exact List.mem_map_of_mem hx))]
      exact hat x hx z
    · exact atKey_put_same hown.isMap (by trivial) _ z
  · by_cases e : k = who
    · subst e
      rw [has_put_same hown.isMap (by trivial)]
      simp [newB]
    · rw [has_put_other (kJ_ne e), hhas]
      simp [newB, e]
  · rcases hmem x hx with hx | rfl
    · exact (h.sets x hx).kept hG (by simpa using (h.sep3 x hx).2.1) (by simpa using (h.sep3 x hx).2.2.2)
    · exact hnewS
  · rw [List.map_append]
    exact List.nodup_append.2 ⟨h.whos, by simp, fun a ha b hb => by simp [newB] at hb; subst hb; exact fun e => he (e ▸ ha)⟩
  · rcases hmem x hx with hx | rfl <;> rcases hmem y hy with hy | rfl
    · exact h.sep1 x hx y hy hxy
    · have := hold x hx; simp [newB]; omega
    · have := hold y hy; simp [newB]; omega
    · exact absurd rfl hxy
  · rcases hmem x hx with hx | rfl <;> rcases hmem y hy with hy | rfl
    · exact h.sep2 x hx y hy
    · have := hold x hx; simp [newB]; omega
    · have := hold y hy; simp [newB]; omega
    · simp [newB]
  · rcases hmem x hx with hx | rfl
    · exact h.sep3 x hx
    · simp [newB]; omega

/-! ### Bind -/
set_option maxRecDepth 100000 in
set_option maxHeartbeats 4000000 in
theorem bound_calls (e : BSet) (w : World) (h : SetAt w e) (hn : e.n ≤ 1000) :
    Calls Try.prog 161 #[.pointer (some ⟨e.S, 0, none⟩)] w fun r w' => r = .returned (.int .u64 (orAll e.K e.fr)) ∧ GrowBut w w' [] := by
  obtain ⟨D, hown, hD⟩ := h.own
  have c0 := h.from_
  have hfl := hown.lt
  generalize e.S = S at c0 ⊢
  generalize e.f = f at c0 hown hfl
  go_enter Try.func161, Try.ntmps161
  go_wp2_with (first
    | (at_range; refine wpList_range_own _ rfl _ 200 rfl 3 23 law3K Try.underlying200 _ f e.n _ rfl hown ?_; intro w0 hrg0 hg0 hs0)
    | go_in)
  go_frame
  go_loopw [2] (fun v wr => ∃ (left : Lit → Bool) (cnt : Nat) (ss : List Int), v = .int .u64 (orAll ss e.fr) ∧ wr.ranges Try.prog 3 (plainElem Try.prog 23) f w.heap.size e.n D left cnt ∧
      ss.Nodup ∧ (∀ x, x ∈ ss ↔ x ∈ e.K ∧ left (kJ x) = false) ∧ GrowBut w wr []) (fun _ wr => wr.rangeLeft f w.heap.size)
  case atStart => exact ⟨_, _, [], rfl, hrg0, List.nodup_nil, fun x => by rw [hD.has]; simp, .of_none hg0⟩
  case round =>
    obtain ⟨left, cnt, ss, rfl, hrg, hnd, hss, hG⟩ := hrel
    go_wp2_with (first
      | (at_next; refine wpList_next_ranges_ii _ rfl _ rfl 3 23 .i64 .u64 law3K Try.underlying3 Try.underlying23 f w.heap.size e.n _ _ _ rfl hrg ?_ ?_)
      | go_in)
    · intro hc0 hl0
      go_wp2_with go_in
      go_ret
      have hp : ss.Perm e.K := (List.perm_ext_iff_of_nodup hnd hD.nodup).2 fun x => by rw [hss x, hl0]; simp
      exact ⟨by rw [orAll_perm e.fr hp]; rfl, hG⟩
    · intro x c w2 cnt2 hwx hwc hlk hat hrg2 hlt hg2 hs2 hen
      have hxK : x ∈ e.K := by simpa using (hD.has x).symm.trans (has_true_of_atKey hat)
      obtain rfl : (e.fr x : Int) = c := by
        have := hD.at_ x hxK .nil
        rw [hat] at this
        simpa using this.symm
      have hor := u64_or_nat (orAll ss e.fr) (e.fr x) (orAll_lt hD.lt) (hD.lt x)
      have hx : x ∉ ss := fun hm => by have := ((hss x).1 hm).2; rw [hlk] at this; cases this
      have hGw2 := hG.from (.of_some hg2) (fun x hx => .inr (by simp at hx; omega))
      clear hs2
      generalize hq : orAll ss e.fr = q at hor
      go_wp2_with go_in
      refine ⟨⟨_, cnt2, x :: ss, ?_, hrg2, List.nodup_cons.2 ⟨hx, hnd⟩, fun y => ?_, hGw2⟩, by rw [hrg2.left_eq, hrg.left_eq]; exact hlt⟩
      · show _ = Value.int .u64 ((e.fr x ||| orAll ss e.fr : Nat) : Int)
        rw [hq, Nat.or_comm]
      · by_cases hy : y = x
        · subst hy; simp [hxK, Lit.sameKey]
        · simp [hss y, hy, Lit.sameKey]

/-- More bells bound to one. -/
def bindB (from_ : Int) (bits : Nat) (e : BSet) : BSet := { e with n := e.n + 1, K := addK e.K from_, fr := fun x => if x = from_ then e.fr from_ ||| bits else e.fr x }

set_option maxRecDepth 100000 in
set_option maxHeartbeats 4000000 in
theorem bind_calls (B b n : Nat) (l : List BSet) (e : BSet) (from_ : Int) (bits : Nat) (w : World) (h : BellsAt w B b n l) (he : e ∈ l) (hk : (Lit.int .i64 e.who).wf = true) (hf : (Lit.int .i64 from_).wf = true) (hb : bits < 18446744073709551616) (h0 : bits ≠ 0)
    (hfree : orAll e.K e.fr &&& bits = 0) (hn : e.n ≤ 1000) :
    Calls Try.prog 59 #[.pointer (some ⟨B, 0, none⟩), .int .i64 e.who, .int .i64 from_, .int .u64 bits] w fun r w' => r = .returned (.int .i64 0) ∧ BellsAt w' B b n (updB l e.who (bindB from_ bits)) ∧ GrowBut w w' [e.f] := by
  have hO := ofB_calls B b n l e w h he hk
  have hS := h.sets e he
  have hB := bound_calls e w hS hn
  have hor : e.fr from_ ||| bits < 18446744073709551616 := by
    obtain ⟨D, hown, hD⟩ := hS.own
    exact Nat.or_lt_two_pow (n := 64) (hD.lt from_) hb
  have hu := fun w' => h.upd (w' := w') he (bindB from_ bits) (fun e => ⟨rfl, rfl, rfl⟩) (t := [e.f])
  have hkeep : ∀ w1, GrowBut w w1 [] → SetAt w1 e ∧ w1.cell? ⟨e.S, 0, none⟩ = some (.map (some e.f)) := fun w1 hg => ⟨hS.kept hg (by simp) (by simp), hg.cell hS.from_ (by simp)⟩
  have hB0 : ¬ (bits : Int) = 0 := by omega
  have hA := u64_and_nat (orAll e.K e.fr) bits (orAll_lt (by obtain ⟨D, hown, hD⟩ := hS.own; exact hD.lt)) hb
  rw [hfree] at hA
  have hR := u64_or_nat (e.fr from_) bits (by obtain ⟨D, hown, hD⟩ := hS.own; exact hD.lt from_) hb
  generalize hee : e.who = who at hk hO ⊢
  generalize hes : e.S = S at hO hB hkeep
  generalize hef : e.f = f at hkeep ⊢
  generalize orAll e.K e.fr = all at hB hA
  generalize hff : e.fr from_ = ff at hor hR
  go_enter Try.func59, Try.ntmps59
  go_upto_region 8 with (first
    | (go_at_call 160; refine hO.mono ?_; rintro r w1 ⟨rfl, hw1⟩; rw [hw1]; clear hw1 w1)
    | (go_at_call 161; refine hB.mono ?_; rintro r w1 ⟨rfl, hg1⟩)
    | go_in)
  obtain ⟨hS1, c0⟩ := hkeep w1 hg1
  obtain ⟨D, hown, hD⟩ := hS1.own
  rw [hef] at hown
  obtain ⟨c, hrun, hat, hwc⟩ := hown.lookup_int law3K Try.underlying200 Try.underlying23 (zeroU w1) (keyJ hf)
  rw [hD.atKey, hff] at hat
  obtain rfl : (ff : Int) = c := by simpa using hat
  have hwf : (Lit.int .u64 ((ff ||| bits : Nat) : Int)).wf = true := by
    simp only [Lit.wf, Bool.and_eq_true, decide_eq_true_eq]
    have hm : IntKind.u64.min = 0 := by decide
    have hM : IntKind.u64.max = 18446744073709551615 := by decide
    rw [hm, hM]
    omega
  go_wp2_with (first
    | (at_mapUpdate; refine wpList_mapUpdate_own _ rfl _ _ _ 200 rfl 3 23 law3K Try.underlying200 (plainElem Try.prog 23) f e.n D rfl hown (by unfold maxLen; omega) _ _ (kJ from_) rfl rfl (keyJ hf) (.lit (.int .u64 ((ff ||| bits : Nat) : Int))) [] (plainElem_int Try.underlying23 hwf) ?_; intro w2 hown2 hg2)
    | go_in)
  go_ret
  subst hee hes hff hef
  have hG2 := GrowBut.of_some hg2
  have hG : GrowBut w w2 [e.f] := (hg1.mono (fun x hx => nomatch hx)).trans hG2
  have hne : e.S ∉ [e.f] := by simpa using h.sep2 e he e he
  exact ⟨rfl, hu _ hG (by simp) ⟨hG2.cell hS1.from_ hne, hG2.cell hS1.rung hne, hG2.cell hS1.fresh hne, hG2.frozen hS1.lt hS1.fz1 hne, hG2.frozen hS1.lt hS1.fz2 hne, Nat.lt_of_lt_of_le hS1.lt hG2.size, ⟨_, hown2, hD.put hown.isMap from_ hor⟩, hS1.rlt⟩, hG⟩

end Go.Proofs.Ytlgfopfibopcnaa
