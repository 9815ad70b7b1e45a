/-
  Two trees side by side.
-/
import Derived.Test.YtdhnfhhmacjajaaJ9
import Derived.Test.YtdhnfhhmacjajaaJ11
import Derived.Laws.BytesArg
import Derived.Deep.RegionHeld
import Derived.Test.YtdhnfhhmacjajaaProg
import Derived.Test.YtdhnfhhmacjajaaRows
import Derived.WalkKit
import Derived.ProofKit
import Derived.OpenShut
import Derived.ShutString
import Derived.WideKeyArr2
import Derived.ChangeSlices
import Derived.ChangeOld
import Derived.Carry

namespace Go.Proofs.Ytdhnfhhmacjajaa
open Go Go.RowKit Go.Maps Go.Am Go.Shelf
set_option linter.unusedVariables false
set_option linter.unusedSimpArgs false

theorem orE_ok {n : Nat} {F : LfF} (h : tabsN F ≤ n) : orE n F = 0 := if_pos h

theorem orL_ok {n : Nat} {F F' : LfF} (h : tabsN F' ≤ n) : orL n F F' = F' := if_pos h

theorem ints_at {w : World} {p : Option Addr} {d : Nat} {q : IntKind} {zs : List Int} (hz : ∀ i, i < d → ∃ a, p = some a ∧ a.block < w.heap.size ∧ w.cell? (a.add i) = some (.int q (zs.getD i 0))) :
    ∀ i, i < d → ∃ g off, p = some ⟨g, off, none⟩ ∧ g < w.heap.size ∧ w.cell? ⟨g, off + i, none⟩ = some (.int q (zs.getD i 0)) := by
  intro i hi
  obtain ⟨⟨g, off, sp⟩, rfl, hg, _⟩ := hz 0 (by omega)
  have hsp : sp = none := by
    obtain ⟨a, ha, _, hc⟩ := hz 0 (by omega)
    cases ha
    simp [Addr.add, World.cell?] at hc
    split at hc
    · by_cases hs : sp = none
      · exact hs
      · simp [hs] at hc
    · cases hc
  subst hsp
  obtain ⟨a, ha, _, hc⟩ := hz i hi
  cases ha
  refine ⟨g, off, rfl, hg, ?_⟩
  have hadd : Addr.add ⟨g, off, none⟩ i = ⟨g, off + i, none⟩ := by
    unfold Addr.add
    by_cases hk : i = 0 <;> simp [hk]
  rw [hadd] at hc
  exact hc

theorem GA.bl_all (A : GA) : ∀ x ∈ A.bl, x ∈ A.all := fun x hx => by
  simp only [GA.bl, GA.all, List.mem_cons, List.not_mem_nil, or_false] at hx ⊢
  rcases hx with h | h | h | h | h <;> simp [h]

structure TwoG (w0 w : World) (A R : GA) (k : Nat) (F G : LfF) : Prop where
  a : GrAt w A R.bl k F
  r : GrAt w R A.bl k G
  apA : ∀ x ∈ A.all, x ∉ R.bl
  apR : ∀ x ∈ R.all, x ∉ A.bl
  newA : ∀ x ∈ A.bl, w0.heap.size ≤ x
  newR : ∀ x ∈ R.bl, w0.heap.size ≤ x
  g : GrowBut w0 w []

theorem TwoG.keep0 {w0 w w' : World} {A R : GA} {k : Nat} {F G : LfF} (h : TwoG w0 w A R k F G) (hg : GrowBut w w' []) : TwoG w0 w' A R k F G :=
  ⟨h.a.keep0 hg, h.r.keep0 hg, h.apA, h.apR, h.newA, h.newR, h.g.trans hg⟩

theorem TwoG.setA {w0 w : World} {A R : GA} {k : Nat} {F G : LfF} (h : TwoG w0 w A R k F G) (hk : k ≤ 10000) {p : Int} {l : Int × Int} (hm : MayL p l) (hr : tabsN (putL F p l) ≤ A.n) :
    Calls Try.prog 16 #[.pointer (some ⟨A.t, 0, none⟩), .int .i64 p, leafV l] w fun e w' => e = .returned (.int .i64 0) ∧ TwoG w0 w' A R (k + 1) (putL F p l) G := by
  refine (setG A R.bl k F p l w h.a hk hm).mono ?_
  rintro e w' ⟨rfl, hG, hg⟩
  rw [orL_ok hr] at hG
  exact ⟨by rw [orE_ok hr], hG, (h.r.kept hg (fun x hx => hx) (fun x hx => h.apR x hx)).mono (by omega), h.apA, h.apR, h.newA, h.newR, h.g.from hg (fun x hx => .inr (h.newA x hx))⟩

theorem TwoG.setR {w0 w : World} {A R : GA} {k : Nat} {F G : LfF} (h : TwoG w0 w A R k F G) (hk : k ≤ 10000) {p : Int} {l : Int × Int} (hm : MayL p l) (hr : tabsN (putL G p l) ≤ R.n) :
    Calls Try.prog 16 #[.pointer (some ⟨R.t, 0, none⟩), .int .i64 p, leafV l] w fun e w' => e = .returned (.int .i64 0) ∧ TwoG w0 w' A R (k + 1) F (putL G p l) := by
  refine (setG R A.bl k G p l w h.r hk hm).mono ?_
  rintro e w' ⟨rfl, hG, hg⟩
  rw [orL_ok hr] at hG
  exact ⟨by rw [orE_ok hr], (h.a.kept hg (fun x hx => hx) (fun x hx => h.apA x hx)).mono (by omega), hG, h.apA, h.apR, h.newA, h.newR, h.g.from hg (fun x hx => .inr (h.newR x hx))⟩

theorem TwoG.cutR {w0 w : World} {A R : GA} {k : Nat} {F G : LfF} (h : TwoG w0 w A R k F G) (hk : k ≤ 10000) {p : Int} (hp : 0 ≤ p ∧ p < 4096) (hs : (G p).isSome = true) (hr : tabsN (delL G p) ≤ R.n) :
    Calls Try.prog 14 #[.pointer (some ⟨R.t, 0, none⟩), .int .i64 p] w fun e w' => e = .returned (.int .i64 0) ∧ TwoG w0 w' A R (k + 1) F (delL G p) := by
  refine (cutG R A.bl k G p w h.r hk hp).mono ?_
  rintro e w' ⟨rfl, hG, hg⟩
  unfold cutF at hG
  rw [if_pos hs, orL_ok hr] at hG
  exact ⟨by unfold cutE; rw [if_pos hs, orE_ok hr], (h.a.kept hg (fun x hx => hx) (fun x hx => h.apA x hx)).mono (by omega), hG, h.apA, h.apR, h.newA, h.newR, h.g.from hg (fun x hx => .inr (h.newR x hx))⟩

/-- A row of numbers that came in stays. -/
structure CameU (w0 : World) (p : Option Addr) (zs : List Int) : Prop where
  at_ : ∀ i, i < zs.length → ∃ g off, p = some ⟨g, off, none⟩ ∧ g < w0.heap.size ∧ w0.cell? ⟨g, off + i, none⟩ = some (.int .u8 (zs.getD i 0))
  rng : ∀ x ∈ zs, 0 ≤ x ∧ x < 256

theorem CameU.get {w0 w : World} {p : Option Addr} {zs : List Int} (h : CameU w0 p zs) (hg : GrowBut w0 w []) {i : Nat} (hi : i < zs.length) : ∃ g off, p = some ⟨g, off, none⟩ ∧ w.cell? ⟨g, off + i, none⟩ = some (.int .u8 (zs.getD i 0)) ∧ 0 ≤ zs.getD i 0 ∧ zs.getD i 0 < 256 := by
  obtain ⟨g, off, h1, h2, h3⟩ := h.at_ i hi
  exact ⟨g, off, h1, hg.cell h3 (by simp), h.rng _ (mem_getD hi)⟩

theorem wf_u8 {a : Int} (h : (Lit.int .u8 a).wf = true) : 0 ≤ a ∧ a < 256 := by
  simp only [Lit.wf, Bool.and_eq_true, decide_eq_true_eq] at h
  have hm : IntKind.u8.min = 0 := by decide
  have hM : IntKind.u8.max = 255 := by decide
  rw [hm, hM] at h
  omega

/-- A row of numbers that is read. -/
def AllRow (w : World) (v : Value) (L : List Int) : Prop := ∃ s c, v = .slice s L.length c ∧ ∀ j, j < L.length → ∃ g, s = some ⟨g, 0, none⟩ ∧ w.cell? ⟨g, j, none⟩ = some (.int .i64 (L.getD j 0))

theorem AllRow.of {w : World} {base : Nat} {v : Value} {L : List Int} (hrow : w.ownsRow base 3 1 v L.length (L.map (Value.int .i64))) : AllRow w v L := by
  rcases rowW_of hrow with ⟨rfl, rfl⟩ | ⟨g, cap, rfl, hg, hc⟩
  · exact ⟨none, 0, rfl, fun j hj => absurd hj (by simp)⟩
  · exact ⟨_, _, rfl, fun j hj => ⟨g, rfl, hc j hj⟩⟩

theorem allRow (A : GA) (X : List Nat) (k : Nat) (F : LfF) (w : World) (h : GrAt w A X k F) :
    Calls Try.prog 26 #[.pointer (some ⟨A.t, 0, none⟩)] w fun e w' => ∃ v, e = .returned v ∧ AllRow w' v (allP F) ∧ GrowBut w w' [] := by
  refine (allG A X k F w h).mono ?_
  rintro e w' ⟨v, rfl, hrow, hg⟩
  exact ⟨v, rfl, .of hrow, hg⟩

end Go.Proofs.Ytdhnfhhmacjajaa


/-
  GraftFull: a frame is read; the maps of single pages.
-/
namespace Go.Proofs.Ytdhnfhhmacjajaa
open Go Go.RowKit Go.Maps Go.Am Go.Shelf
set_option linter.unusedVariables false
set_option linter.unusedSimpArgs false

theorem infoB : (Try.prog.info? 5).map (fun i => (i.zero, i.size, i.bytes)) = some (some (.int .u8 0), 1, 1) := by kernel_rfl

set_option maxRecDepth 100000 in
set_option maxHeartbeats 4000000 in
/-- A frame is read, all of it. -/
theorem ramRead (M L nf : Nat) (sec : Int) (mem : Nat → Int) (f : Nat) (w : World) (h : RamAt w M L nf sec mem) (hf : f < nf) (xs : List Int) (hlen : xs.length = 128) (hxs : ∀ i, i < 128 → mem (f * 128 + i) = xs.getD i 0) :
    Calls Try.prog 27 #[.pointer (some ⟨M, 0, none⟩), .bool true, .int .i64 f, .int .i64 0, .int .i64 128] w fun e w' => ∃ v, e = .returned (.tuple #[v, .int .i64 0]) ∧ w'.ownsRow w.heap.size 5 1 v xs.length (xs.map (Value.int .u8)) ∧ GrowBut w w' [] := by
  have hA := ramAt_in M L nf sec mem f 0 128 w h hf (by omega) (by omega)
  rw [Nat.add_zero] at hA
  have he := eqSl L (f * 128) 128 w
  obtain ⟨i0, hi, hz0, hz1, hz2⟩ := info_parts infoB
  have hga := GrowBut.alloc w (.cells #[] 5) []
  have hlit := World.ownsRow_lit (base := w.heap.size) (e := 5) (size := 1) w #[] 0 (Nat.le_refl _) (by unfold maxLen; omega) rfl
  have hnews : ∀ (j : Nat) u, (xs.map (Value.int .u8))[j]? = some u → (w.alloc (.cells #[] 5)).cell? ((⟨L, f * 128, none⟩ : Addr).add j) = some u := fun j u hu => by
    have hj : j < xs.length := by
      obtain ⟨hj, _⟩ := List.getElem?_eq_some_iff.1 hu
      simpa using hj
    have hadd : Addr.add ⟨L, f * 128, none⟩ j = ⟨L, f * 128 + j, none⟩ := by
      unfold Addr.add
      by_cases hk : j = 0 <;> simp [hk]
    rw [hadd]
    have hc := h.cells (f * 128 + j) (by omega)
    rw [hxs j (by omega)] at hc
    have : (xs.map (Value.int .u8))[j]? = some (.int .u8 (xs.getD j 0)) := by
      rw [List.getElem?_map, List.getD_eq_getElem?_getD, List.getElem?_eq_getElem hj]; rfl
    rw [this] at hu
    cases hu
    exact hga.cell hc (by simp)
  have hone : ∀ u ∈ xs.map (Value.int .u8), u.oneCell' = true := fun u hu => by
    obtain ⟨x, _, rfl⟩ := List.mem_map.1 hu; simp [Value.oneCell']
  clear hxs
  go_enter Try.func27, Try.ntmps27
  go_wp2_with (first
    | (go_at_call 43; refine hA.mono ?_; rintro e w1 ⟨rfl, hw1⟩; rw [hw1]; clear hw1 w1)
    | (at_builtin; (refine wpList_append_own _ rfl _ _ 49 rfl w.heap.size 5 i0 (.int .u8 0) 1 1 Try.underlying49 hi hz0 hz1 hz2 rfl (by decide) _ _ _ rfl hlit ⟨L, f * 128, none⟩ 128 128 (xs.map (Value.int .u8)) rfl (by simp [hlen]) hnews hone (by unfold maxLen; omega) (by omega) (by simp) ?_; intro v' w4 hown4 hg4 hnil4; go_frame))
    | fail)
  go_ret2
  exact ⟨v', rfl, by rw [hlen]; simpa using hown4, hga.from (GrowBut.of_rowG (o := some w.heap.size) hg4) (fun x hx => .inr (by simp at hx; omega))⟩

/-- A word is nought: so its bytes are. -/
theorem wordT_zero {m : Nat → Int} (hb : ∀ i, 0 ≤ m i ∧ m i < 256) (o : Nat) : ∀ k, k ≤ 8 → wordT m o k = 0 → ∀ j, j < k → m (o + 7 - j) = 0
  | 0, _, _, j, hj => absurd hj (by omega)
  | k + 1, hk, h, j, hj => by
    unfold wordT at h
    have h1 := hb (o + 7 - k)
    by_cases e : j = k
    · subst e; omega
    · exact wordT_zero hb o k (by omega) (by omega) j (by omega)

theorem frame_zero {m : Nat → Int} (hb : ∀ i, 0 ≤ m i ∧ m i < 256) (f : Nat) (h : ∀ a, a < 16 → wordF m f a = 0) (i : Nat) (hi : i < 128) : m (f * 128 + i) = 0 := by
  have h1 := h (i / 8) (by omega)
  unfold wordF at h1
  have := wordT_zero hb (f * 128 + i / 8 * 8) 8 (Nat.le_refl _) h1 (7 - i % 8) (by omega)
  rw [show f * 128 + i / 8 * 8 + 7 - (7 - i % 8) = f * 128 + i by omega] at this
  exact this

/-- Single pages, from a group on, up to another one. -/
def rowL (a b : Nat) : LfF := fun x => if 16 * (a : Int) ≤ x ∧ x < 16 * (b : Int) ∧ x % 16 = 0 then some (50, 1) else none

theorem rowL_self (a : Nat) : rowL a a = noneL := by
  funext x; unfold rowL noneL; rw [if_neg (by omega)]

theorem rowL_put {a b : Nat} (h : a ≤ b) : putL (rowL a b) (16 * (b : Int)) (50, 1) = rowL a (b + 1) := by
  funext x; unfold putL rowL
  by_cases e : x = 16 * (b : Int)
  · rw [if_pos e, if_pos (by omega)]
  · rw [if_neg e]
    by_cases e2 : 16 * (a : Int) ≤ x ∧ x < 16 * (b : Int) ∧ x % 16 = 0
    · rw [if_pos e2, if_pos (by omega)]
    · rw [if_neg e2, if_neg (by omega)]

theorem rowL_cut {a b : Nat} (h : a < b) : delL (rowL a b) (16 * (a : Int)) = rowL (a + 1) b := by
  funext x; unfold delL rowL
  by_cases e : x = 16 * (a : Int)
  · rw [if_pos e, if_neg (by omega)]
  · rw [if_neg e]
    by_cases e2 : 16 * (a : Int) ≤ x ∧ x < 16 * (b : Int) ∧ x % 16 = 0
    · rw [if_pos e2, if_pos (by omega)]
    · rw [if_neg e2, if_neg (by omega)]

theorem rowL_any (a b : Nat) (g : Nat) : anyG (rowL a b) g 16 = decide (a ≤ g ∧ g < b) := by
  rw [Bool.eq_iff_iff, anyG_iff, decide_eq_true_eq]
  constructor
  · rintro ⟨j, hj, h⟩
    unfold rowL at h
    split at h
    · omega
    · cases h
  · intro h
    refine ⟨0, by omega, ?_⟩
    unfold rowL
    rw [if_pos (by omega)]
    rfl

theorem wholeG_false {F : LfF} {g : Int} (j : Nat) (hj : j < 16) (h : F (g * 16 + j) = none) : wholeG F g 16 = false := by
  have key : ∀ n, j < n → wholeG F g n = false := by
    intro n
    induction n with
    | zero => intro h; omega
    | succ n ih =>
      intro hn
      unfold wholeG
      by_cases e : j = n
      · subst e; simp [okG, h]
      · rw [ih (by omega)]; rfl
  exact key 16 hj

/-- How many tables for one more single page, in a group of its own. -/
theorem tabs_one {F : LfF} {g : Nat} (hg : g < 256) (ha : anyG F g 16 = false) (l : Int × Int) : tabsN (putL F (16 * (g : Int)) l) = tabsN F + 1 + (if ((g : Int) / 16) ∈ midsL F 256 then 0 else 1) := by
  classical
  have hoff := sameOff_put F (16 * (g : Int)) l (g : Int) (by omega)
  have l1 := len_step (nodup_midsL F 256) (nodup_midsL (putL F (16 * (g : Int)) l) 256) hoff.mids
  have l2 := len_step (nodup_endsL F 256) (nodup_endsL (putL F (16 * (g : Int)) l) 256) hoff.ends
  have hany : anyG (putL F (16 * (g : Int)) l) g 16 = true := (anyG_iff _ _ 16).2 ⟨0, by omega, by
    have : (g : Int) * 16 + ((0 : Nat) : Int) = 16 * (g : Int) := by omega
    rw [this, put_same]; rfl⟩
  have hnone : ∀ j : Nat, j < 16 → F ((g : Int) * 16 + j) = none := fun j hj => by
    cases h : F ((g : Int) * 16 + j) with
    | none => rfl
    | some v =>
      have := (anyG_iff F g 16).2 ⟨j, hj, by rw [h]; rfl⟩
      rw [ha] at this; cases this
  have hwhole : wholeG (putL F (16 * (g : Int)) l) g 16 = false := wholeG_false 1 (by omega) (by rw [put_other _ _ _ (by omega)]; exact hnone 1 (by omega))
  have m1 : ((g : Int) / 16) ∈ midsL (putL F (16 * (g : Int)) l) 256 := (mem_midsL _ _ 256).2 ⟨g, hg, rfl, hany⟩
  have m2 : (g : Int) ∈ endsL (putL F (16 * (g : Int)) l) 256 := (mem_endsL _ _ 256).2 ⟨g, hg, rfl, hany, hwhole⟩
  have m3 : (g : Int) ∉ endsL F 256 := fun h => by
    obtain ⟨g', _, e, h2, _⟩ := (mem_endsL F _ 256).1 h
    rw [← e, ha] at h2; cases h2
  rw [if_pos m1] at l1
  rw [if_pos m2, if_neg m3] at l2
  unfold tabsN
  split at l1
  · rename_i h; rw [if_pos h]; omega
  · rename_i h; rw [if_neg h]; omega

theorem rowL_mids {a b : Nat} (hb : b ≤ 16) : (0 : Int) ∈ midsL (rowL a b) 256 ↔ a < b := by
  rw [mem_midsL]
  constructor
  · rintro ⟨g, hg, e, h⟩
    rw [rowL_any, decide_eq_true_eq] at h
    omega
  · intro h
    exact ⟨a, by omega, by omega, by rw [rowL_any]; exact decide_eq_true ⟨Nat.le_refl _, h⟩⟩

theorem rowL_tabs (a : Nat) : ∀ b, a ≤ b → b ≤ 16 → tabsN (rowL a b) = if a < b then 2 + (b - a) else 1
  | 0, h, _ => by
    obtain rfl : a = 0 := by omega
    rw [rowL_self, tabsN_none]; rfl
  | b + 1, h, hb => by
    by_cases e : a = b + 1
    · subst e; rw [rowL_self, tabsN_none, if_neg (by omega)]
    · have ih := rowL_tabs a b (by omega) (by omega)
      have hq : ((b : Nat) : Int) / 16 = 0 := by omega
      have ht := tabs_one (F := rowL a b) (g := b) (by omega) (by rw [rowL_any]; exact decide_eq_false (by omega)) (50, 1)
      rw [hq, rowL_put (by omega), ih] at ht
      rw [ht, if_pos (show a < b + 1 by omega)]
      by_cases e2 : a < b
      · rw [if_pos e2, if_pos ((rowL_mids (by omega)).2 e2)]; omega
      · rw [if_neg e2, if_neg (fun h => e2 ((rowL_mids (by omega)).1 h))]; omega

/-- One more than there is room for. -/
theorem rowL_more {h i : Nat} (hi : h ≤ i) (hi2 : i < 16) : tabsN (putL (rowL 0 h) (16 * (i : Int)) (50, 1)) = 3 + h := by
  have ht := tabs_one (F := rowL 0 h) (g := i) (by omega) (by rw [rowL_any]; exact decide_eq_false (by omega)) (50, 1)
  rw [show ((i : Nat) : Int) / 16 = 0 by omega, rowL_tabs 0 h (by omega) (by omega)] at ht
  rw [ht]
  by_cases e2 : 0 < h
  · rw [if_pos e2, if_pos ((rowL_mids (by omega)).2 e2)]; omega
  · rw [if_neg e2, if_neg (fun h => e2 ((rowL_mids (by omega)).1 h))]; omega

theorem rowL_ok {a b : Nat} (hb : b ≤ 16) : LfOk (rowL a b) := by
  refine ⟨fun k l h => ?_, fun k l h => ?_, fun k l h => ?_⟩ <;> unfold rowL at h <;> split at h
  · omega
  · cases h
  · cases h; decide
  · cases h
  · cases h; decide
  · cases h

theorem rowL_all : ∀ b, b ≤ 16 → (allP (rowL 0 b)).length = b
  | 0, _ => by rw [rowL_self, allP_none]; rfl
  | b + 1, hb => by
    have h := allP_put (rowL_ok (a := 0) (b := b) (by omega)) (p := 16 * (b : Int)) (l := (50, 1)) ⟨by omega, by omega, by decide, by decide, by decide, by decide⟩
    rw [rowL_put (by omega), rowL_all b (by omega)] at h
    rw [h, if_neg (by unfold rowL; rw [if_neg (by omega)]; simp)]

end Go.Proofs.Ytdhnfhhmacjajaa


/-
  GraftBlocks: the walk.
-/
namespace Go.Proofs.Ytdhnfhhmacjajaa
open Go Go.RowKit Go.Maps Go.Am Go.Shelf
set_option linter.unusedVariables false
set_option linter.unusedSimpArgs false

theorem walkV_blW (q : Nat) (hq : q < 16) : walkV blW ((32 + q : Nat) : Int) = .tuple #[leafV (40 + (q : Int), 3), .int .i64 2, .int .i64 0] := by
  unfold walkV
  rw [show blW ((32 + q : Nat) : Int) = some (40 + (q : Int), 3) from by unfold blW; rw [if_pos (by omega)]; congr 2; omega]
  simp only
  rw [show ((32 + q : Nat) : Int) / 16 = ((2 : Nat) : Int) by omega, whole_blW]
  rfl

theorem walkV_some {F : LfF} (hw : wholeG F ((2 : Nat) : Int) 16 = false) (q : Nat) (hq : q < 16) {l : Int × Int} (h : F (32 + (q : Int)) = some l) : walkV F ((32 + q : Nat) : Int) = .tuple #[leafV l, .int .i64 3, .int .i64 0] := by
  unfold walkV
  rw [show ((32 + q : Nat) : Int) = 32 + (q : Int) by omega, h]
  simp only
  rw [show (32 + (q : Int)) / 16 = ((2 : Nat) : Int) by omega, hw]
  rfl

theorem walkV_none {F : LfF} (q : Nat) (h : F (32 + (q : Int)) = none) : walkV F ((32 + q : Nat) : Int) = .tuple #[leafV (0, 0), .int .i64 0, .int .i64 (-20)] := by
  unfold walkV
  rw [show ((32 + q : Nat) : Int) = 32 + (q : Int) by omega, h]

theorem blW_at (q : Nat) (hq : q < 16) : blW (32 + (q : Int)) = some (40 + (q : Int), 3) := by
  unfold blW; rw [if_pos (by omega)]; congr 2; omega

set_option maxRecDepth 100000 in
set_option maxHeartbeats 16000000 in
theorem blocks_walk (tu wi ho : Nat) (w : World) (htu : tu < 256) (hwi : wi < 256) (hho : ho < 256) :
    Calls Try.prog 4 #[.int .u8 tu, .int .u8 wi, .int .u8 ho] w fun e w' => e = .returned (.bool true) ∧ GrowBut w w' [] := by
  have hB := graft_begun w
  have hm0 : ∀ w1, _ := fun w1 => ramNew 100 100 w1 (by omega) (by omega)
  have hs0 : ∀ w1, _ := fun w1 => stockNew 0 6 w1 (by omega) (by omega)
  go_enter Try.func4, Try.ntmps4
  go_upto_region 8 with (first
    | (go_at_call 9; refine hB.mono ?_; rintro e w1 ⟨rfl, hg1⟩)
    | (go_at_call 10; refine (hm0 w1).mono ?_; rintro e w2 ⟨M, L, rfl, hR2, hM2, hL2, hg2⟩; have hsl2 := hR2.lt)
    | (go_at_call 11; refine (hs0 w2).mono ?_; rintro e w3 ⟨S, T, rfl, hS3, hS3l, hT3l, hg3⟩; have hR3 := hR2.kept hg3 (by simp) (by simp); have hN := newG M L S T 100 100 0 6 _ [] w3 hR3 hS3 (by omega) (by omega) (by simp) (by omega) (by omega))
    | (go_at_call 12; refine hN.mono ?_; rintro e w4 ⟨A, rfl, hA1, hA2, hA3, hA4, hA5, hA6, hA7, hA8, hlt, hlm, hle, hG4, hg4⟩)
    | go_in)
  have z1 := hg1.size
  have z2 := hg2.size
  have z3 := hg3.size
  have hbl : ∀ x ∈ A.bl, w.heap.size ≤ x := fun x hx => by
    simp only [GA.bl, List.mem_cons, List.not_mem_nil, or_false] at hx
    rcases hx with rfl | rfl | rfl | rfl | rfl <;> omega
  have hgw : GrowBut w w4 [] := ((hg1.trans hg2).trans hg3).from hg4 (fun x hx => .inr (by simp at hx; omega))
  have hnxt : ∀ {a b : World}, GrowBut w a [] → GrowBut a b A.bl → GrowBut w b [] := fun h1 h2 => h1.from h2 (fun x hx => .inr (hbl x hx))
  have hAn : HideG (A.n = 6 ∧ A.S = S ∧ A.M = M ∧ A.nf = 100) := ⟨hA8, hA3, hA1, hA5⟩
  clear hA1 hA2 hA3 hA4 hA5 hA6 hA7 hA8 hlt hlm hle hg4 hg3 hg2 hg1 hN hR2 hR3 hS3 hM2 hL2 hS3l hT3l hsl2 hbl hB hm0 hs0 z1 z2 z3
  go_wp2_with fail
  rw [show noneL = blF tu 0 from rfl] at hG4
  go_loopw [11] (fun v11 wx => ∃ i : Nat, v11 = .int .i64 i ∧ i ≤ 16 ∧ GrAt wx A [] i (blF tu i) ∧ GrowBut w wx []) (fun v11 _ => 16 - natOf v11)
  case atStart => exact ⟨0, rfl, by omega, hG4, hgw⟩
  case round =>
    obtain ⟨i, rfl, hi, hG, hgr⟩ := hrel
    by_cases hlt : i < 16
    · have hlt' : (i : Int) < 16 := by omega
      have hge' : ¬ (16 : Int) ≤ (i : Int) := by omega
      obtain ⟨k, hk⟩ : ∃ k : Nat, k = (i * 5 + tu) % 16 := ⟨_, rfl⟩
      have hk1 : ((i : Int) * 5 + (tu : Int)) % 16 = (k : Int) := by omega
      have hk2 : k < 16 := by omega
      have hw1 := IntWalk.i64_in ((i : Int) * 5) (by omega)
      have hw2 := IntWalk.i64_in ((i : Int) * 5 + (tu : Int)) (by omega)
      have hw3 := IntWalk.i64_in (32 + (k : Int)) (by omega)
      have hw4 := IntWalk.i64_in (40 + (k : Int)) (by omega)
      have hw5 := IntWalk.i64_in (k : Int) (by omega)
      have hw6 := IntWalk.i64_in ((i : Int) + 1) (by omega)
      have hS := setG A [] i (blF tu i) (32 + (k : Int)) (40 + (k : Int), 3) wr hG (by omega) ⟨by omega, by omega, by show (0 : Int) ≤ 40 + (k : Int); omega, by show 40 + (k : Int) < 240; omega, by show (1 : Int) ≤ 3; omega, by show (3 : Int) ≤ 7; omega⟩
      have hput : putL (blF tu i) (32 + (k : Int)) (40 + (k : Int), 3) = blF tu (i + 1) := by rw [hk]; rfl
      rw [hput] at hS
      by_cases hl : i = 15
      · have ht : tabsN (blF tu (i + 1)) = 2 := by rw [hl, blF_whole]; exact tabs_blW
        have hroom : tabsN (blF tu (i + 1)) ≤ A.n := by rw [ht, hAn.out.1]; omega
        rw [orE_ok hroom, orL_ok hroom] at hS
        unfold leafV at hS
        simp only at hS
        clear hG hk hput hroom hG4 hgw
        have hT := fun w5 hG5 => tablesLen A [] (i + 1) (blF tu (i + 1)) w5 hG5
        rw [ht] at hT
        have hX : HideG ((i = 15)) := hl
        clear ht hl
        go_upto_region 14 with (first
          | (go_at_call 16; refine hS.mono ?_; rintro e w5 ⟨rfl, hG5, hg5⟩)
          | fail)
        clear hS hk1 hw1 hw2 hw3 hw4 hw5
        obtain rfl : i = 15 := hX.out
        go_wp2_with (first
          | (go_at_call 21; refine (hT w5 hG5).mono ?_; rintro e w6 ⟨s6, d6, rfl, hg6⟩; have hG6 := hG5.keep0 hg6)
          | fail)
        exact ⟨⟨15 + 1, by simp, by omega, hG6, (hnxt hgr hg5).trans hg6⟩, by simp [natOf]⟩
      · have ht : tabsN (blF tu (i + 1)) = 3 := tabs_bl tu (i + 1) (by omega) (by omega)
        have hroom : tabsN (blF tu (i + 1)) ≤ A.n := by rw [ht, hAn.out.1]; omega
        rw [orE_ok hroom, orL_ok hroom] at hS
        unfold leafV at hS
        simp only at hS
        clear hG hk hput hroom hG4 hgw
        have hT := fun w5 hG5 => tablesLen A [] (i + 1) (blF tu (i + 1)) w5 hG5
        rw [ht] at hT
        have hX : HideG (¬ (i = 15)) := hl
        clear ht hl
        go_upto_region 14 with (first
          | (go_at_call 16; refine hS.mono ?_; rintro e w5 ⟨rfl, hG5, hg5⟩)
          | fail)
        clear hS hk1 hw1 hw2 hw3 hw4 hw5
        have hE : ¬ (i : Int) = 15 := fun hc => hX.out (by omega)
        go_wp2_with (first
          | (go_at_call 21; refine (hT w5 hG5).mono ?_; rintro e w6 ⟨s6, d6, rfl, hg6⟩; have hG6 := hG5.keep0 hg6)
          | fail)
        exact ⟨⟨i + 1, by simp, by omega, hG6, (hnxt hgr hg5).trans hg6⟩, by simp [natOf]; omega⟩
    · have hik : i = 16 := by omega
      subst hik
      rw [blF_whole] at hG
      obtain ⟨q, hq⟩ : ∃ q : Nat, q = wi % 16 := ⟨_, rfl⟩
      have hq1 : (wi : Int) % 16 = (q : Int) := by omega
      have hq2 : q < 16 := by omega
      have hw0 := IntWalk.i64_in (q : Int) (by omega)
      have hw1 := IntWalk.i64_in (32 + (q : Int)) (by omega)
      have hw2 := IntWalk.i64_in (40 + (q : Int)) (by omega)
      have hRo := rootG A [] 16 blW wr hG
      have hW := walkG A [] 16 blW (32 + q) wr hG (by omega) (fun x l hx => by
        rw [hAn.out.2.2.2]
        unfold blW at hx
        split at hx
        · cases hx; simp only; omega
        · cases hx)
      rw [walkV_blW q hq2, hAn.out.2.2.1, show ((32 + q : Nat) : Int) = 32 + (q : Int) by omega] at hW
      unfold leafV at hW
      simp only at hW
      clear hG4 hgw hq
      rcases (by omega : (ho : Int) % 3 = 0 ∨ (ho : Int) % 3 = 1 ∨ (ho : Int) % 3 = 2) with hh | hh | hh
      · go_upto_region 20 with (first
          | (go_at_call 23; refine hRo.mono ?_; rintro e w5 ⟨rfl, hww⟩; rw [hww]; clear hww w5)
          | (go_at_call 22; refine hW.mono ?_; clear hW; rintro e w6 ⟨rfl, hg6⟩; have hG6 := hG.keep0 hg6; have hgr6 := hgr.trans hg6)
          | go_in)
        go_upto_region 28 with fail
        have hga := (GrowBut.alloc w6 (.cells #[.int .i64 (40 + (q : Int)), .int .i64 3] 39) []).trans (GrowBut.alloc (w6.alloc (.cells #[.int .i64 (40 + (q : Int)), .int .i64 3] 39)) (.cells #[.int .i64 (40 + (q : Int)), .int .i64 1] 39) [])
        have hG7 := hG6.keep0 hga
        have hgr7 := hgr6.trans hga
        have x0 : ((w6.alloc (.cells #[.int .i64 (40 + (q : Int)), .int .i64 3] 39)).alloc (.cells #[.int .i64 (40 + (q : Int)), .int .i64 1] 39)).cell? ⟨w6.heap.size + 1, 0, none⟩ = some (.int .i64 (40 + (q : Int))) := by go_simp
        have x1 : ((w6.alloc (.cells #[.int .i64 (40 + (q : Int)), .int .i64 3] 39)).alloc (.cells #[.int .i64 (40 + (q : Int)), .int .i64 1] 39)).cell? ⟨w6.heap.size + 1, 1, none⟩ = some (.int .i64 1) := by go_simp
        have hlts := hG6.lt
        generalize (w6.alloc (.cells #[.int .i64 (40 + (q : Int)), .int .i64 3] 39)).alloc (.cells #[.int .i64 (40 + (q : Int)), .int .i64 1] 39) = w7 at *
        obtain ⟨Bx, hBx⟩ : ∃ Bx, Bx = w6.heap.size + 1 := ⟨_, rfl⟩
        rw [← hBx] at x0 x1 ⊢
        have hBA : Bx ∉ A.bl := fun hx => by
          have := hlts Bx (by simp only [GA.bl, GA.all, List.mem_cons, List.not_mem_nil, or_false] at hx ⊢; rcases hx with h | h | h | h | h <;> simp [h])
          omega
        clear hBx hlts hga hG6 hgr6 hg6 hG hgr hRo
        have hp := put_blW q hq2 ((40 + (q : Int)), 1) (by intro hc; simp only [Prod.mk.injEq] at hc; omega)
        have hS := setG A [] 16 blW (32 + (q : Int)) ((40 + (q : Int)), 1) w7 hG7 (by omega) ⟨by omega, by omega, by show (0 : Int) ≤ (40 + (q : Int)); omega, by show (40 + (q : Int)) < (240 : Int); omega, by show (1 : Int) ≤ 1; omega, by show (1 : Int) ≤ 7; omega⟩
        have hF1 : ∀ x, x ≠ 32 + (q : Int) → putL blW (32 + (q : Int)) ((40 + (q : Int)), 1) x = blW x := fun x hx => by unfold putL; rw [if_neg hx]
        have hFq : putL blW (32 + (q : Int)) ((40 + (q : Int)), 1) (32 + (q : Int)) = some ((40 + (q : Int)), 1) := by unfold putL; rw [if_pos rfl]
        have hroom : tabsN (putL blW (32 + (q : Int)) ((40 + (q : Int)), 1)) ≤ A.n := by rw [hp.2, hAn.out.1]; omega
        rw [orE_ok hroom, orL_ok hroom] at hS
        clear hroom
        generalize putL blW (32 + (q : Int)) ((40 + (q : Int)), 1) = F' at *
        unfold leafV at hS
        simp only at hS
        have hp : HideG (wholeG F' ((2 : Nat) : Int) 16 = false ∧ tabsN F' = 3) := hp
        have hFq : HideG (F' (32 + (q : Int)) = some ((40 + (q : Int)), 1)) := hFq
        have hF1 : HideG (∀ x, x ≠ 32 + (q : Int) → F' x = blW x) := hF1
        have hfr : HideG (∀ x l, F' x = some l → l.1 < 100) := fun x l hx => by
          by_cases e : x = 32 + (q : Int)
          · subst e
            have := hFq.out.symm.trans hx
            cases this; simp only; omega
          · have h9 := hF1.out x e
            rw [hx] at h9
            unfold blW at h9
            split at h9
            · cases h9; simp only; omega
            · cases h9
        go_upto_region 33 with (first
          | (go_at_call 16; refine hS.mono ?_; clear hS; rintro e w8 ⟨rfl, hG8, hg8⟩)
          | fail)
        have y0 := hg8.cell x0 hBA
        have y1 := hg8.cell x1 hBA
        have hgr8 := hnxt hgr7 hg8
        clear x0 x1 hg8 hG7 hgr7 hBA
        have hRo := rootG A [] 17 F' w8 hG8
        have hW := walkG A [] 17 F' (32 + q) w8 hG8 (by omega) (fun x l hx => by rw [hAn.out.2.2.2]; exact hfr.out x l hx)
        rw [walkV_some hp.out.1 q hq2 hFq.out, hAn.out.2.2.1, show ((32 + q : Nat) : Int) = 32 + (q : Int) by omega] at hW
        unfold leafV at hW
        simp only at hW
        go_upto_region 34 with (first
          | (go_at_call 23; refine hRo.mono ?_; clear hRo; rintro e w9 ⟨rfl, hww⟩; rw [hww]; clear hww w9)
          | (go_at_call 22; refine hW.mono ?_; clear hW; rintro e w9 ⟨rfl, hg9⟩)
          | fail)
        have hgb := hg9.trans (GrowBut.alloc w9 (.cells #[.int .i64 (40 + (q : Int)), .int .i64 1] 39) [])
        have hG10 := hG8.keep0 hgb
        have hgr10 := hgr8.trans hgb
        have z0 := hgb.cell y0 (by simp)
        have z1 := hgb.cell y1 (by simp)
        have u0 : (w9.alloc (.cells #[.int .i64 (40 + (q : Int)), .int .i64 1] 39)).cell? ⟨w9.heap.size, 0, none⟩ = some (.int .i64 (40 + (q : Int))) := by go_simp
        have u1 : (w9.alloc (.cells #[.int .i64 (40 + (q : Int)), .int .i64 1] 39)).cell? ⟨w9.heap.size, 1, none⟩ = some (.int .i64 1) := by go_simp
        generalize w9.alloc (.cells #[.int .i64 (40 + (q : Int)), .int .i64 1] 39) = w10 at *
        clear hgb hg9 hG8 hgr8 y0 y1
        have hTl := tablesLen A [] 17 F' w10 hG10
        rw [hp.out.2] at hTl
        go_upto_region 37 with (first
          | (go_at_call 21; refine hTl.mono ?_; clear hTl; rintro e w11 ⟨s11, d11, rfl, hg11⟩)
          | fail)
        have hG11 := hG10.keep0 hg11
        have hgr11 := hgr10.trans hg11
        clear hG10 hgr10 hg11 z0 z1 u0 u1
        go_wp2_with fail
        go_loopw [21] (fun v21 wx => ∃ j : Nat, v21 = .int .i64 j ∧ j ≤ 16 ∧ GrAt wx A [] 17 F' ∧ GrowBut w wx []) (fun v21 _ => 16 - natOf v21)
        case atStart => exact ⟨0, rfl, by omega, hG11, hgr11⟩
        case round =>
          clear hG11 hgr11
          obtain ⟨j, rfl, hj, hG, hgr⟩ := hrel
          by_cases hlj : j < 16
          · have hlj' : (j : Int) < 16 := by omega
            have hv1 := IntWalk.i64_in (32 + (j : Int)) (by omega)
            have hv2 := IntWalk.i64_in (40 + (j : Int)) (by omega)
            have hv3 := IntWalk.i64_in ((j : Int) + 1) (by omega)
            have hRo := rootG A [] 17 F' wr hG
            have hW := walkG A [] 17 F' (32 + j) wr hG (by omega) (fun x l hx => by rw [hAn.out.2.2.2]; exact hfr.out x l hx)
            by_cases hjq : j = q
            · obtain rfl : q = j := hjq.symm
              rw [walkV_some hp.out.1 q hq2 hFq.out, hAn.out.2.2.1, show ((32 + q : Nat) : Int) = 32 + (q : Int) by omega] at hW
              unfold leafV at hW
              simp only at hW
              go_wp2_with (first
                | (go_at_call 23; refine hRo.mono ?_; clear hRo; rintro e w9 ⟨rfl, hww⟩; rw [hww]; clear hww w9)
                | (go_at_call 22; refine hW.mono ?_; clear hW; rintro e w9 ⟨rfl, hg9⟩)
                | fail)
              exact ⟨⟨q + 1, by simp, by omega, (hG.keep0 hg9).keep0 (GrowBut.alloc _ _ _), (hgr.trans hg9).trans (GrowBut.alloc _ _ _)⟩, by simp [natOf]; omega⟩
            · have hne : ¬ (j : Int) = (q : Int) := by omega
              rw [walkV_some hp.out.1 j hlj ((hF1.out _ (by omega)).trans (blW_at j hlj)), hAn.out.2.2.1, show ((32 + j : Nat) : Int) = 32 + (j : Int) by omega] at hW
              unfold leafV at hW
              simp only at hW
              go_wp2_with (first
                | (go_at_call 23; refine hRo.mono ?_; clear hRo; rintro e w9 ⟨rfl, hww⟩; rw [hww]; clear hww w9)
                | (go_at_call 22; refine hW.mono ?_; clear hW; rintro e w9 ⟨rfl, hg9⟩)
                | fail)
              exact ⟨⟨j + 1, by simp, by omega, (hG.keep0 hg9).keep0 (GrowBut.alloc _ _ _), (hgr.trans hg9).trans (GrowBut.alloc _ _ _)⟩, by simp [natOf]; omega⟩
          · have hj16 : j = 16 := by omega
            subst hj16
            have hS2 := setG A [] 17 F' (32 + (q : Int)) (40 + (q : Int), 3) wr hG (by omega) ⟨by omega, by omega, by show (0 : Int) ≤ 40 + (q : Int); omega, by show 40 + (q : Int) < 240; omega, by show (1 : Int) ≤ 3; omega, by show (3 : Int) ≤ 7; omega⟩
            have hroom : tabsN blW ≤ A.n := by rw [tabs_blW, hAn.out.1]; omega
            rw [back_blW q hq2 F' hF1.out, orE_ok hroom, orL_ok hroom] at hS2
            unfold leafV at hS2
            simp only at hS2
            have hTz := tablesLen A [] (17 + 1) blW
            have hLz := leftG A [] (17 + 1) blW
            rw [tabs_blW] at hTz
            rw [hAn.out.2.1, hAn.out.1, tabs_blW, show (((6 : Nat) : Int) - ((2 : Nat) : Int)) = 4 from rfl] at hLz
            clear hroom
            go_wp2_with (first
              | (go_at_call 16; refine hS2.mono ?_; clear hS2; rintro e w12 ⟨rfl, hG12, hg12⟩)
              | (go_at_call 21; refine (hTz _ hG12).mono ?_; rintro e w13 ⟨s13, d13, rfl, hg13⟩; have hG13 := hG12.keep0 hg13)
              | (go_at_call 24; refine (hLz _ hG13).mono ?_; rintro e w14 ⟨rfl, hg14⟩)
              | fail)
            go_ret
            exact ⟨rfl, ((hnxt hgr hg12).trans hg13).trans hg14⟩
      · go_upto_region 20 with (first
          | (go_at_call 23; refine hRo.mono ?_; rintro e w5 ⟨rfl, hww⟩; rw [hww]; clear hww w5)
          | (go_at_call 22; refine hW.mono ?_; clear hW; rintro e w6 ⟨rfl, hg6⟩; have hG6 := hG.keep0 hg6; have hgr6 := hgr.trans hg6)
          | go_in)
        go_upto_region 28 with fail
        have hga := (GrowBut.alloc w6 (.cells #[.int .i64 (40 + (q : Int)), .int .i64 3] 39) []).trans (GrowBut.alloc (w6.alloc (.cells #[.int .i64 (40 + (q : Int)), .int .i64 3] 39)) (.cells #[.int .i64 99, .int .i64 3] 39) [])
        have hG7 := hG6.keep0 hga
        have hgr7 := hgr6.trans hga
        have x0 : ((w6.alloc (.cells #[.int .i64 (40 + (q : Int)), .int .i64 3] 39)).alloc (.cells #[.int .i64 99, .int .i64 3] 39)).cell? ⟨w6.heap.size + 1, 0, none⟩ = some (.int .i64 99) := by go_simp
        have x1 : ((w6.alloc (.cells #[.int .i64 (40 + (q : Int)), .int .i64 3] 39)).alloc (.cells #[.int .i64 99, .int .i64 3] 39)).cell? ⟨w6.heap.size + 1, 1, none⟩ = some (.int .i64 3) := by go_simp
        have hlts := hG6.lt
        generalize (w6.alloc (.cells #[.int .i64 (40 + (q : Int)), .int .i64 3] 39)).alloc (.cells #[.int .i64 99, .int .i64 3] 39) = w7 at *
        obtain ⟨Bx, hBx⟩ : ∃ Bx, Bx = w6.heap.size + 1 := ⟨_, rfl⟩
        rw [← hBx] at x0 x1 ⊢
        have hBA : Bx ∉ A.bl := fun hx => by
          have := hlts Bx (by simp only [GA.bl, GA.all, List.mem_cons, List.not_mem_nil, or_false] at hx ⊢; rcases hx with h | h | h | h | h <;> simp [h])
          omega
        clear hBx hlts hga hG6 hgr6 hg6 hG hgr hRo
        have hp := put_blW q hq2 (99, 3) (by intro hc; simp only [Prod.mk.injEq] at hc; omega)
        have hS := setG A [] 16 blW (32 + (q : Int)) (99, 3) w7 hG7 (by omega) ⟨by omega, by omega, by show (0 : Int) ≤ 99; omega, by show 99 < (240 : Int); omega, by show (1 : Int) ≤ 3; omega, by show (3 : Int) ≤ 7; omega⟩
        have hF1 : ∀ x, x ≠ 32 + (q : Int) → putL blW (32 + (q : Int)) (99, 3) x = blW x := fun x hx => by unfold putL; rw [if_neg hx]
        have hFq : putL blW (32 + (q : Int)) (99, 3) (32 + (q : Int)) = some (99, 3) := by unfold putL; rw [if_pos rfl]
        have hroom : tabsN (putL blW (32 + (q : Int)) (99, 3)) ≤ A.n := by rw [hp.2, hAn.out.1]; omega
        rw [orE_ok hroom, orL_ok hroom] at hS
        clear hroom
        generalize putL blW (32 + (q : Int)) (99, 3) = F' at *
        unfold leafV at hS
        simp only at hS
        have hp : HideG (wholeG F' ((2 : Nat) : Int) 16 = false ∧ tabsN F' = 3) := hp
        have hFq : HideG (F' (32 + (q : Int)) = some (99, 3)) := hFq
        have hF1 : HideG (∀ x, x ≠ 32 + (q : Int) → F' x = blW x) := hF1
        have hfr : HideG (∀ x l, F' x = some l → l.1 < 100) := fun x l hx => by
          by_cases e : x = 32 + (q : Int)
          · subst e
            have := hFq.out.symm.trans hx
            cases this; simp only; omega
          · have h9 := hF1.out x e
            rw [hx] at h9
            unfold blW at h9
            split at h9
            · cases h9; simp only; omega
            · cases h9
        go_upto_region 33 with (first
          | (go_at_call 16; refine hS.mono ?_; clear hS; rintro e w8 ⟨rfl, hG8, hg8⟩)
          | fail)
        have y0 := hg8.cell x0 hBA
        have y1 := hg8.cell x1 hBA
        have hgr8 := hnxt hgr7 hg8
        clear x0 x1 hg8 hG7 hgr7 hBA
        have hRo := rootG A [] 17 F' w8 hG8
        have hW := walkG A [] 17 F' (32 + q) w8 hG8 (by omega) (fun x l hx => by rw [hAn.out.2.2.2]; exact hfr.out x l hx)
        rw [walkV_some hp.out.1 q hq2 hFq.out, hAn.out.2.2.1, show ((32 + q : Nat) : Int) = 32 + (q : Int) by omega] at hW
        unfold leafV at hW
        simp only at hW
        go_upto_region 34 with (first
          | (go_at_call 23; refine hRo.mono ?_; clear hRo; rintro e w9 ⟨rfl, hww⟩; rw [hww]; clear hww w9)
          | (go_at_call 22; refine hW.mono ?_; clear hW; rintro e w9 ⟨rfl, hg9⟩)
          | fail)
        have hgb := hg9.trans (GrowBut.alloc w9 (.cells #[.int .i64 99, .int .i64 3] 39) [])
        have hG10 := hG8.keep0 hgb
        have hgr10 := hgr8.trans hgb
        have z0 := hgb.cell y0 (by simp)
        have z1 := hgb.cell y1 (by simp)
        have u0 : (w9.alloc (.cells #[.int .i64 99, .int .i64 3] 39)).cell? ⟨w9.heap.size, 0, none⟩ = some (.int .i64 99) := by go_simp
        have u1 : (w9.alloc (.cells #[.int .i64 99, .int .i64 3] 39)).cell? ⟨w9.heap.size, 1, none⟩ = some (.int .i64 3) := by go_simp
        generalize w9.alloc (.cells #[.int .i64 99, .int .i64 3] 39) = w10 at *
        clear hgb hg9 hG8 hgr8 y0 y1
        have hTl := tablesLen A [] 17 F' w10 hG10
        rw [hp.out.2] at hTl
        go_upto_region 37 with (first
          | (go_at_call 21; refine hTl.mono ?_; clear hTl; rintro e w11 ⟨s11, d11, rfl, hg11⟩)
          | fail)
        have hG11 := hG10.keep0 hg11
        have hgr11 := hgr10.trans hg11
        clear hG10 hgr10 hg11 z0 z1 u0 u1
        go_wp2_with fail
        go_loopw [21] (fun v21 wx => ∃ j : Nat, v21 = .int .i64 j ∧ j ≤ 16 ∧ GrAt wx A [] 17 F' ∧ GrowBut w wx []) (fun v21 _ => 16 - natOf v21)
        case atStart => exact ⟨0, rfl, by omega, hG11, hgr11⟩
        case round =>
          clear hG11 hgr11
          obtain ⟨j, rfl, hj, hG, hgr⟩ := hrel
          by_cases hlj : j < 16
          · have hlj' : (j : Int) < 16 := by omega
            have hv1 := IntWalk.i64_in (32 + (j : Int)) (by omega)
            have hv2 := IntWalk.i64_in (40 + (j : Int)) (by omega)
            have hv3 := IntWalk.i64_in ((j : Int) + 1) (by omega)
            have hRo := rootG A [] 17 F' wr hG
            have hW := walkG A [] 17 F' (32 + j) wr hG (by omega) (fun x l hx => by rw [hAn.out.2.2.2]; exact hfr.out x l hx)
            by_cases hjq : j = q
            · obtain rfl : q = j := hjq.symm
              rw [walkV_some hp.out.1 q hq2 hFq.out, hAn.out.2.2.1, show ((32 + q : Nat) : Int) = 32 + (q : Int) by omega] at hW
              unfold leafV at hW
              simp only at hW
              go_wp2_with (first
                | (go_at_call 23; refine hRo.mono ?_; clear hRo; rintro e w9 ⟨rfl, hww⟩; rw [hww]; clear hww w9)
                | (go_at_call 22; refine hW.mono ?_; clear hW; rintro e w9 ⟨rfl, hg9⟩)
                | fail)
              exact ⟨⟨q + 1, by simp, by omega, (hG.keep0 hg9).keep0 (GrowBut.alloc _ _ _), (hgr.trans hg9).trans (GrowBut.alloc _ _ _)⟩, by simp [natOf]; omega⟩
            · have hne : ¬ (j : Int) = (q : Int) := by omega
              rw [walkV_some hp.out.1 j hlj ((hF1.out _ (by omega)).trans (blW_at j hlj)), hAn.out.2.2.1, show ((32 + j : Nat) : Int) = 32 + (j : Int) by omega] at hW
              unfold leafV at hW
              simp only at hW
              go_wp2_with (first
                | (go_at_call 23; refine hRo.mono ?_; clear hRo; rintro e w9 ⟨rfl, hww⟩; rw [hww]; clear hww w9)
                | (go_at_call 22; refine hW.mono ?_; clear hW; rintro e w9 ⟨rfl, hg9⟩)
                | fail)
              exact ⟨⟨j + 1, by simp, by omega, (hG.keep0 hg9).keep0 (GrowBut.alloc _ _ _), (hgr.trans hg9).trans (GrowBut.alloc _ _ _)⟩, by simp [natOf]; omega⟩
          · have hj16 : j = 16 := by omega
            subst hj16
            have hS2 := setG A [] 17 F' (32 + (q : Int)) (40 + (q : Int), 3) wr hG (by omega) ⟨by omega, by omega, by show (0 : Int) ≤ 40 + (q : Int); omega, by show 40 + (q : Int) < 240; omega, by show (1 : Int) ≤ 3; omega, by show (3 : Int) ≤ 7; omega⟩
            have hroom : tabsN blW ≤ A.n := by rw [tabs_blW, hAn.out.1]; omega
            rw [back_blW q hq2 F' hF1.out, orE_ok hroom, orL_ok hroom] at hS2
            unfold leafV at hS2
            simp only at hS2
            have hTz := tablesLen A [] (17 + 1) blW
            have hLz := leftG A [] (17 + 1) blW
            rw [tabs_blW] at hTz
            rw [hAn.out.2.1, hAn.out.1, tabs_blW, show (((6 : Nat) : Int) - ((2 : Nat) : Int)) = 4 from rfl] at hLz
            clear hroom
            go_wp2_with (first
              | (go_at_call 16; refine hS2.mono ?_; clear hS2; rintro e w12 ⟨rfl, hG12, hg12⟩)
              | (go_at_call 21; refine (hTz _ hG12).mono ?_; rintro e w13 ⟨s13, d13, rfl, hg13⟩; have hG13 := hG12.keep0 hg13)
              | (go_at_call 24; refine (hLz _ hG13).mono ?_; rintro e w14 ⟨rfl, hg14⟩)
              | fail)
            go_ret
            exact ⟨rfl, ((hnxt hgr hg12).trans hg13).trans hg14⟩
      · go_upto_region 20 with (first
          | (go_at_call 23; refine hRo.mono ?_; rintro e w5 ⟨rfl, hww⟩; rw [hww]; clear hww w5)
          | (go_at_call 22; refine hW.mono ?_; clear hW; rintro e w6 ⟨rfl, hg6⟩; have hG6 := hG.keep0 hg6; have hgr6 := hgr.trans hg6)
          | go_in)
        go_upto_region 28 with fail
        have hga := (GrowBut.alloc w6 (.cells #[.int .i64 (40 + (q : Int)), .int .i64 3] 39) []).trans (GrowBut.alloc (w6.alloc (.cells #[.int .i64 (40 + (q : Int)), .int .i64 3] 39)) (.cells #[.int .i64 (40 + (q : Int)), .int .i64 3] 39) [])
        have hG7 := hG6.keep0 hga
        have hgr7 := hgr6.trans hga
        have x0 : ((w6.alloc (.cells #[.int .i64 (40 + (q : Int)), .int .i64 3] 39)).alloc (.cells #[.int .i64 (40 + (q : Int)), .int .i64 3] 39)).cell? ⟨w6.heap.size + 1, 0, none⟩ = some (.int .i64 (40 + (q : Int))) := by go_simp
        have x1 : ((w6.alloc (.cells #[.int .i64 (40 + (q : Int)), .int .i64 3] 39)).alloc (.cells #[.int .i64 (40 + (q : Int)), .int .i64 3] 39)).cell? ⟨w6.heap.size + 1, 1, none⟩ = some (.int .i64 3) := by go_simp
        have hlts := hG6.lt
        generalize (w6.alloc (.cells #[.int .i64 (40 + (q : Int)), .int .i64 3] 39)).alloc (.cells #[.int .i64 (40 + (q : Int)), .int .i64 3] 39) = w7 at *
        obtain ⟨Bx, hBx⟩ : ∃ Bx, Bx = w6.heap.size + 1 := ⟨_, rfl⟩
        rw [← hBx] at x0 x1 ⊢
        have hBA : Bx ∉ A.bl := fun hx => by
          have := hlts Bx (by simp only [GA.bl, GA.all, List.mem_cons, List.not_mem_nil, or_false] at hx ⊢; rcases hx with h | h | h | h | h <;> simp [h])
          omega
        clear hBx hlts hga hG6 hgr6 hg6 hG hgr hRo
        have hp := del_blW q hq2
        have hS := cutG A [] 16 blW (32 + (q : Int)) w7 hG7 (by omega) ⟨by omega, by omega⟩
        have hF1 : ∀ x, x ≠ 32 + (q : Int) → delL blW (32 + (q : Int)) x = blW x := fun x hx => by unfold delL; rw [if_neg hx]
        have hFq : delL blW (32 + (q : Int)) (32 + (q : Int)) = none := by unfold delL; rw [if_pos rfl]
        have hroom : tabsN (delL blW (32 + (q : Int))) ≤ A.n := by rw [hp.2, hAn.out.1]; omega
        unfold cutE cutF at hS
        rw [blW_at q hq2] at hS
        simp only [Option.isSome_some, if_true] at hS
        rw [orE_ok hroom, orL_ok hroom] at hS
        clear hroom
        generalize delL blW (32 + (q : Int)) = F' at *
        have hp : HideG (wholeG F' ((2 : Nat) : Int) 16 = false ∧ tabsN F' = 3) := hp
        have hFq : HideG (F' (32 + (q : Int)) = none) := hFq
        have hF1 : HideG (∀ x, x ≠ 32 + (q : Int) → F' x = blW x) := hF1
        have hfr : HideG (∀ x l, F' x = some l → l.1 < 100) := fun x l hx => by
          by_cases e : x = 32 + (q : Int)
          · subst e
            have := hFq.out.symm.trans hx
            cases this
          · have h9 := hF1.out x e
            rw [hx] at h9
            unfold blW at h9
            split at h9
            · cases h9; simp only; omega
            · cases h9
        go_upto_region 33 with (first
          | (go_at_call 14; refine hS.mono ?_; clear hS; rintro e w8 ⟨rfl, hG8, hg8⟩)
          | fail)
        have y0 := hg8.cell x0 hBA
        have y1 := hg8.cell x1 hBA
        have hgr8 := hnxt hgr7 hg8
        clear x0 x1 hg8 hG7 hgr7 hBA
        have hRo := rootG A [] 17 F' w8 hG8
        have hW := walkG A [] 17 F' (32 + q) w8 hG8 (by omega) (fun x l hx => by rw [hAn.out.2.2.2]; exact hfr.out x l hx)
        rw [walkV_none q hFq.out, hAn.out.2.2.1, show ((32 + q : Nat) : Int) = 32 + (q : Int) by omega] at hW
        unfold leafV at hW
        simp only at hW
        go_upto_region 34 with (first
          | (go_at_call 23; refine hRo.mono ?_; clear hRo; rintro e w9 ⟨rfl, hww⟩; rw [hww]; clear hww w9)
          | (go_at_call 22; refine hW.mono ?_; clear hW; rintro e w9 ⟨rfl, hg9⟩)
          | fail)
        have hgb := hg9.trans (GrowBut.alloc w9 (.cells #[.int .i64 0, .int .i64 0] 39) [])
        have hG10 := hG8.keep0 hgb
        have hgr10 := hgr8.trans hgb
        have z0 := hgb.cell y0 (by simp)
        have z1 := hgb.cell y1 (by simp)
        have u0 : (w9.alloc (.cells #[.int .i64 0, .int .i64 0] 39)).cell? ⟨w9.heap.size, 0, none⟩ = some (.int .i64 0) := by go_simp
        have u1 : (w9.alloc (.cells #[.int .i64 0, .int .i64 0] 39)).cell? ⟨w9.heap.size, 1, none⟩ = some (.int .i64 0) := by go_simp
        generalize w9.alloc (.cells #[.int .i64 0, .int .i64 0] 39) = w10 at *
        clear hgb hg9 hG8 hgr8 y0 y1
        have hTl := tablesLen A [] 17 F' w10 hG10
        rw [hp.out.2] at hTl
        go_upto_region 37 with (first
          | (go_at_call 21; refine hTl.mono ?_; clear hTl; rintro e w11 ⟨s11, d11, rfl, hg11⟩)
          | fail)
        have hG11 := hG10.keep0 hg11
        have hgr11 := hgr10.trans hg11
        clear hG10 hgr10 hg11 z0 z1 u0 u1
        go_wp2_with fail
        go_loopw [21] (fun v21 wx => ∃ j : Nat, v21 = .int .i64 j ∧ j ≤ 16 ∧ GrAt wx A [] 17 F' ∧ GrowBut w wx []) (fun v21 _ => 16 - natOf v21)
        case atStart => exact ⟨0, rfl, by omega, hG11, hgr11⟩
        case round =>
          clear hG11 hgr11
          obtain ⟨j, rfl, hj, hG, hgr⟩ := hrel
          by_cases hlj : j < 16
          · have hlj' : (j : Int) < 16 := by omega
            have hv1 := IntWalk.i64_in (32 + (j : Int)) (by omega)
            have hv2 := IntWalk.i64_in (40 + (j : Int)) (by omega)
            have hv3 := IntWalk.i64_in ((j : Int) + 1) (by omega)
            have hRo := rootG A [] 17 F' wr hG
            have hW := walkG A [] 17 F' (32 + j) wr hG (by omega) (fun x l hx => by rw [hAn.out.2.2.2]; exact hfr.out x l hx)
            by_cases hjq : j = q
            · obtain rfl : q = j := hjq.symm
              rw [walkV_none q hFq.out, hAn.out.2.2.1, show ((32 + q : Nat) : Int) = 32 + (q : Int) by omega] at hW
              unfold leafV at hW
              simp only at hW
              go_wp2_with (first
                | (go_at_call 23; refine hRo.mono ?_; clear hRo; rintro e w9 ⟨rfl, hww⟩; rw [hww]; clear hww w9)
                | (go_at_call 22; refine hW.mono ?_; clear hW; rintro e w9 ⟨rfl, hg9⟩)
                | fail)
              exact ⟨⟨q + 1, by simp, by omega, (hG.keep0 hg9).keep0 (GrowBut.alloc _ _ _), (hgr.trans hg9).trans (GrowBut.alloc _ _ _)⟩, by simp [natOf]; omega⟩
            · have hne : ¬ (j : Int) = (q : Int) := by omega
              rw [walkV_some hp.out.1 j hlj ((hF1.out _ (by omega)).trans (blW_at j hlj)), hAn.out.2.2.1, show ((32 + j : Nat) : Int) = 32 + (j : Int) by omega] at hW
              unfold leafV at hW
              simp only at hW
              go_wp2_with (first
                | (go_at_call 23; refine hRo.mono ?_; clear hRo; rintro e w9 ⟨rfl, hww⟩; rw [hww]; clear hww w9)
                | (go_at_call 22; refine hW.mono ?_; clear hW; rintro e w9 ⟨rfl, hg9⟩)
                | fail)
              exact ⟨⟨j + 1, by simp, by omega, (hG.keep0 hg9).keep0 (GrowBut.alloc _ _ _), (hgr.trans hg9).trans (GrowBut.alloc _ _ _)⟩, by simp [natOf]; omega⟩
          · have hj16 : j = 16 := by omega
            subst hj16
            have hS2 := setG A [] 17 F' (32 + (q : Int)) (40 + (q : Int), 3) wr hG (by omega) ⟨by omega, by omega, by show (0 : Int) ≤ 40 + (q : Int); omega, by show 40 + (q : Int) < 240; omega, by show (1 : Int) ≤ 3; omega, by show (3 : Int) ≤ 7; omega⟩
            have hroom : tabsN blW ≤ A.n := by rw [tabs_blW, hAn.out.1]; omega
            rw [back_blW q hq2 F' hF1.out, orE_ok hroom, orL_ok hroom] at hS2
            unfold leafV at hS2
            simp only at hS2
            have hTz := tablesLen A [] (17 + 1) blW
            have hLz := leftG A [] (17 + 1) blW
            rw [tabs_blW] at hTz
            rw [hAn.out.2.1, hAn.out.1, tabs_blW, show (((6 : Nat) : Int) - ((2 : Nat) : Int)) = 4 from rfl] at hLz
            clear hroom
            go_wp2_with (first
              | (go_at_call 16; refine hS2.mono ?_; clear hS2; rintro e w12 ⟨rfl, hG12, hg12⟩)
              | (go_at_call 21; refine (hTz _ hG12).mono ?_; rintro e w13 ⟨s13, d13, rfl, hg13⟩; have hG13 := hG12.keep0 hg13)
              | (go_at_call 24; refine (hLz _ hG13).mono ?_; rintro e w14 ⟨rfl, hg14⟩)
              | fail)
            go_ret
            exact ⟨rfl, ((hnxt hgr hg12).trans hg13).trans hg14⟩

theorem graftBlocks_walk (tu wi ho : Int) (w : World) (h1 : (Lit.int .u8 tu).wf = true) (h2 : (Lit.int .u8 wi).wf = true) (h3 : (Lit.int .u8 ho).wf = true) :
    Calls Try.prog 4 #[.int .u8 tu, .int .u8 wi, .int .u8 ho] w fun e w' => e = .returned (.bool true) ∧ w.grownBy w' none := by
  have b1 := wf_u8 h1
  have b2 := wf_u8 h2
  have b3 := wf_u8 h3
  obtain ⟨a, rfl⟩ : ∃ a : Nat, tu = a := ⟨tu.toNat, by omega⟩
  obtain ⟨b, rfl⟩ : ∃ b : Nat, wi = b := ⟨wi.toNat, by omega⟩
  obtain ⟨c, rfl⟩ : ∃ c : Nat, ho = c := ⟨ho.toNat, by omega⟩
  exact (blocks_walk a b c w (by omega) (by omega) (by omega)).mono fun e w' h => ⟨h.1, h.2.keepAll⟩

end Go.Proofs.Ytdhnfhhmacjajaa


/-
  Arguments that come in: arrays of numbers, rows of numbers (for a seat without api.Regs).
-/
namespace Go.Proofs.Ytdhnfhhmacjajaa
open Go Go.ChangeShapes Go.WideShapes Go.ChangeAt Go.RowKit
set_option linter.unusedVariables false
set_option linter.unusedSimpArgs false

theorem laidOut : laidOutB Try.prog = true := by kernel_rfl
theorem ownKnobs : ownKnob Try.prog.godebug = none := by kernel_rfl

/-! ### Arrays of numbers that come in -/
theorem mapM_all {α β : Type} {f : α → Option β} : ∀ {L : List α} {ys : List β}, L.mapM f = some ys → ∀ i ∈ L, ∃ y, f i = some y
  | [], _, _, i, hi => by simp at hi
  | x :: L, ys, h, i, hi => by
    rw [List.mapM_cons] at h
    simp only [bind, Option.bind_eq_some_iff, pure, Option.some.injEq] at h
    obtain ⟨y, hy, zs, hz, _⟩ := h
    rcases List.mem_cons.1 hi with rfl | hi
    · exact ⟨y, hy⟩
    · exact mapM_all hz i hi

theorem all_ints {q : IntKind} : ∀ (l : List Value), (∀ x ∈ l, ∃ a, x = .int q a) → ∃ zs : List Int, l = zs.map (Value.int q ·)
  | [], _ => ⟨[], rfl⟩
  | x :: l, h => by
    obtain ⟨a, rfl⟩ := h x (by simp)
    obtain ⟨zs, rfl⟩ := all_ints l fun y hy => h y (by simp [hy])
    exact ⟨a :: zs, rfl⟩

theorem arr_ints {H : Type} {enc : TypeId × Value → H} {P : Program} {k e : TypeId} {n : Nat} {q : IntKind} {W : World} {base : Nat} {sp : Nat → Bool} {held : Bool} (hu : P.underlying k = some (.array n e)) (he : P.underlying e = some (.int q)) (h1 : P.cellsOf e = 1) (hk : P.cellsOf k = n)
    {xs : Array Value} (hn : xs.size = n) {d : DataW H} {ps : List MemPlace} (hd : DataW.Trod enc P W base sp held k (.agg xs) d ps) : ps = [] ∧ ∃ zs : List Int, xs.toList = zs.map (Value.int q ·) ∧ zs.length = n := by
  obtain ⟨fuel, hf⟩ := hd
  cases fuel with
  | zero => simp [DataW.trod] at hf
  | succ m =>
    rw [DataW.trod_step] at hf
    unfold DataW.trodStep at hf
    simp only [hu, Value.cells] at hf
    rw [if_pos (by rw [hk]; simpa using hn)] at hf
    simp only [Option.map_eq_some_iff] at hf
    obtain ⟨ys, hy, e1⟩ := hf
    obtain ⟨ls, hls, _⟩ := Go.WideMaps.mapM_both (D := 0) he _ ys hy
    simp only [Prod.mk.injEq] at e1
    refine ⟨by rw [← e1.2, hls]; simp [List.flatMap_eq_nil_iff], ?_⟩
    have hall : ∀ x ∈ xs.toList, ∃ a, x = Value.int q a := fun x hx => by
      obtain ⟨i, hi, hxi⟩ := List.getElem_of_mem hx
      have hin : i < n := by rw [← hn]; simpa using hi
      obtain ⟨y, hy'⟩ := mapM_all hy i (by simp [hin])
      obtain ⟨a, ha, _⟩ := DataW.trod_int he hy'
      refine ⟨a, ?_⟩
      rw [h1, Nat.mul_one] at ha
      have : ((xs.toList.drop i).take 1)[0]? = some (Value.int q a) := by rw [ha]; rfl
      rw [List.getElem?_take, if_pos (by omega), List.getElem?_drop, Nat.add_zero, List.getElem?_eq_getElem hi, hxi] at this
      exact Option.some.inj this
    obtain ⟨zs, hz⟩ := all_ints _ hall
    refine ⟨zs, hz, ?_⟩
    have := congrArg List.length hz
    simp at this
    omega

abbrev regs (x0 x1 x2 x3 x4 x5 x6 x7 : Int) : Value := .agg #[.int .u64 x0, .int .u64 x1, .int .u64 x2, .int .u64 x3, .int .u64 x4, .int .u64 x5, .int .u64 x6, .int .u64 x7]

set_option maxRecDepth 100000 in
theorem cell_ltO {w : World} {a : Addr} {v : Value} (h : w.cell? a = some v) : a.block < w.heap.size := by
  by_cases h2 : a.block < w.heap.size
  · exact h2
  · exfalso
    have h3 : w.heap[a.block]? = none := Array.getElem?_eq_none (by omega)
    simp [World.cell?, h3] at h

set_option maxRecDepth 100000 in
theorem slice_ints {H : Type} {enc : TypeId × Value → H} {W : World} {b0 : Nat} {r : Reach} {t e : TypeId} {q : IntKind} {v : Value} {d : DataW H} {ps : List MemPlace} (ht : Try.prog.underlying t = some (.slice e)) (he : Try.prog.underlying e = some (.int q)) (hc : Try.prog.cellsOf e = 1) (hval : Value.okWide Try.prog W r b0 t v)
    (hd : DataW.Trod enc Try.prog W 0 (fun _ => true) true t v d ps) :
    ∃ (zs : List Int) (p : Option Addr) (cap : Nat), v = .slice p zs.length cap ∧ (∀ i, i < zs.length → ∃ a, p = some a ∧ a.block < W.heap.size ∧ W.cell? (a.add i) = some (.int q (zs.getD i 0))) ∧ ∀ n ∈ zs, (Lit.int q n).wf = true := by
  obtain ⟨fuel, hf⟩ := hd
  obtain ⟨a0, len, cap, rfl⟩ := okWide_slice ht hval
  rcases open_ints ht he hc hf with ⟨hcs, hx⟩ | ⟨a, len', cap', zs, hcs, _, hl, hm, hz, hx, hcell, hwz⟩
  · simp [Value.cells] at hcs
    obtain ⟨rfl, rfl, rfl⟩ := hcs
    exact ⟨[], none, 0, rfl, fun i hi => by simp at hi, fun n hn => by simp at hn⟩
  · simp [Value.cells] at hcs
    obtain ⟨rfl, rfl, rfl⟩ := hcs
    simp only [if_true] at hz
    refine ⟨zs.take len, _, cap, by rw [List.length_take, Nat.min_eq_left (by omega)], fun i hi => ?_, fun n hn => hwz n (List.mem_of_mem_take hn)⟩
    rw [List.length_take, Nat.min_eq_left (by omega)] at hi
    have h1 := hcell i (by omega)
    refine ⟨a, rfl, ?_, ?_⟩
    · have : (a.add i).block = a.block := by unfold Addr.add; first | rfl | (split <;> rfl)
      rw [← this]
      exact cell_ltO h1
    · rw [h1, List.getD_eq_getElem?_getD, List.getD_eq_getElem?_getD, List.getElem?_take_of_lt hi]

end Go.Proofs.Ytdhnfhhmacjajaa
