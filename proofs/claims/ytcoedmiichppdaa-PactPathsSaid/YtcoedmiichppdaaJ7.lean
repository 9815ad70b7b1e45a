/-
  mark.Of: how many marks it tells, whatever the order in which the map is ranged over: the walk.
-/
import Derived.Test.YtcoedmiichppdaaJ4
import Derived.Test.YtcoedmiichppdaaJ5
import Derived.Test.YtcoedmiichppdaaJ6
import Derived.Maps.OwnSet

namespace Go.Proofs.Ytcoedmiichppdaa
open Go Go.RowKit Go.Maps Go.Am
set_option linter.unusedVariables false
set_option linter.unusedSimpArgs false

theorem lawU : Keyed Try.prog 33 := int_keyed Try.underlying33

/-- What was met so far, of whom it is. -/
def CollU {H : Type} (D0 : DataW H) (left : Lit → Bool) (s : Int) (ss : List Int) : Prop := ss.Nodup ∧ ∀ x, x ∈ ss ↔ (Maps.has D0 (.int .u64 x) = true ∧ left (.int .u64 x) = false ∧ whose x = s)

section
variable {H : Type} {D0 : DataW H} {left : Lit → Bool} {ss : List Int} {s : Int}

theorem CollU.start (D0 : DataW H) (s : Int) : CollU D0 (Maps.has D0) s [] := ⟨List.nodup_nil, fun x => by cases Maps.has D0 (.int .u64 x) <;> simp⟩

theorem CollU.step (h : CollU D0 left s ss) {x : Int} {y : DataW H} (hw : whose x = s) (hlk : left (.int .u64 x) = true) (hat : ∀ zd, D0.atKey (.int .u64 x) zd = y) : CollU D0 (fun z => left z && !z.sameKey (.int .u64 x)) s (ss ++ [x]) := by
  have hhas : Maps.has D0 (.int .u64 x) = true := has_true_of_atKey hat
  have hnew : x ∉ ss := fun hx => by have := ((h.2 x).1 hx).2.1; rw [hlk] at this; cases this
  refine ⟨List.nodup_append.2 ⟨h.1, by simp, fun a ha b hb => by simp at hb; subst hb; exact fun e => hnew (e ▸ ha)⟩, fun y => ?_⟩
  by_cases hy : y = x
  · subst hy; simp [hhas, Lit.sameKey, hw]
  · simp [h.2 y, hy, Lit.sameKey]

theorem CollU.stays (h : CollU D0 left s ss) {x : Int} (hw : whose x ≠ s) : CollU D0 (fun z => left z && !z.sameKey (.int .u64 x)) s ss := by
  refine ⟨h.1, fun y => ?_⟩
  by_cases hy : y = x
  · subst hy
    constructor
    · intro hm; exact absurd ((h.2 y).1 hm).2.2 hw
    · rintro ⟨_, _, h3⟩; exact absurd h3 hw
  · simp [h.2 y, hy, Lit.sameKey]

variable {R : Value → Option (DataW H × List MemPlace)} {w : World} {b n : Nat}

theorem CollU.perm (h : CollU D0 left s ss) (hown : w.ownsMap Try.prog 33 R b n D0) (hl : ∀ kl, left kl = false) : ss.Perm ((intKeys D0).filter fun x => decide (whose x = s)) := by
  obtain ⟨es, hD, hpw, _⟩ := hown.entries lawU
  obtain ⟨es', hD', hko⟩ := hown.keysOf
  obtain rfl : es = es' := by rw [hD] at hD'; simpa using hD'
  subst hD
  have hk : ∀ p ∈ es, ∃ x, p.1 = .int .u64 x := fun p hp => by
    obtain ⟨v, hv⟩ := hko p hp
    obtain ⟨x, _, hx, _⟩ := Maps.keyOf_int_inv Try.underlying33 hv
    exact ⟨x, hx⟩
  refine (List.perm_ext_iff_of_nodup h.1 ?_).2 fun x => ?_
  · refine List.Pairwise.filter _ ?_
    show (es.map fun p => Go.intOf p.1).Nodup
    refine List.pairwise_map.2 (hpw.imp_of_mem fun {p q} hp' hq' hne e => hne ?_)
    obtain ⟨a, ha⟩ := hk p hp'
    obtain ⟨b, hb⟩ := hk q hq'
    rw [ha, hb] at e ⊢
    exact congrArg _ e
  · rw [h.2 x, hl, List.mem_filter, decide_eq_true_iff, Maps.has_eq, List.any_eq_true]
    show _ ↔ x ∈ (es.map fun p => Go.intOf p.1) ∧ _
    rw [List.mem_map]
    constructor
    · rintro ⟨⟨p, hp', hs⟩, _, hw⟩
      obtain ⟨a, ha⟩ := hk p hp'
      rw [ha] at hs
      exact ⟨⟨p, hp', by rw [ha]; simpa [Lit.sameKey, Go.intOf] using hs⟩, hw⟩
    · rintro ⟨⟨p, hp', rfl⟩, hw⟩
      obtain ⟨a, ha⟩ := hk p hp'
      exact ⟨⟨p, hp', by rw [ha]; simp [Lit.sameKey, Go.intOf]⟩, rfl, hw⟩
end

theorem infoU : (Try.prog.info? 33).map (fun i => (i.zero, i.size, i.bytes)) = some (some (.int .u64 0), 1, 8) := by kernel_rfl

set_option maxRecDepth 100000 in
set_option maxHeartbeats 2000000 in
/-- Whatever the order: so many marks as are of whom is asked for; no more than four of them. -/
theorem of_calls {H : Type} (mb mo b n : Nat) (s : Int) (D0 : DataW H) (w : World) (c0 : w.cell? ⟨mb, mo + 6, none⟩ = some (.map (some b))) (hown : w.ownsMap Try.prog 33 (plainElem Try.prog 4) b n D0) (hmax : Maps.size D0 ≤ 100000)
    (hfew : ((intKeys D0).filter fun x => decide (whose x = s)).length ≤ 4) :
    Calls Try.prog 95 #[.pointer (some ⟨mb, mo, none⟩), .int .i64 s] w fun e w' => ∃ v, e = .returned v ∧ ((((intKeys D0).filter fun x => decide (whose x = s)).length = 0 ∧ v = .slice none 0 0) ∨
      ∃ g cap, v = .slice (some ⟨g, 0, none⟩) ((intKeys D0).filter fun x => decide (whose x = s)).length cap ∧ 0 < ((intKeys D0).filter fun x => decide (whose x = s)).length ∧ ((intKeys D0).filter fun x => decide (whose x = s)).length ≤ cap ∧ w.heap.size ≤ g ∧ g < w'.heap.size) ∧ Below w.heap.size w w' := by
  generalize hF : ((intKeys D0).filter fun x => decide (whose x = s)).length = F at hfew ⊢
  obtain ⟨i0, hi, hz0, hz1, hz2⟩ := info_parts infoU
  have hbl := hown.lt
  go_enter Try.func95, Try.ntmps95
  go_wp2_with (first
    | (at_range; refine wpList_range_own _ rfl _ 150 rfl 33 4 lawU Try.underlying150 _ b n _ rfl hown ?_; intro w0 hrg0 hg0 hs0)
    | go_in)
  go_frame
  go_loopw [4] (fun v wr => ∃ (left : Lit → Bool) (cnt : Nat) (ss : List Int), wr.ranges Try.prog 33 (plainElem Try.prog 4) b w.heap.size n D0 left cnt ∧ ss.length + cnt ≤ Maps.size D0 ∧
      wr.ownsRow w.heap.size 33 1 v ss.length (ss.map (Value.int .u64)) ∧ (ss = [] → v = .slice none 0 0) ∧ CollU D0 left s ss ∧ Below w.heap.size w wr)
    (fun _ wr => wr.rangeLeft b w.heap.size)
  case atStart => exact ⟨_, _, [], hrg0, by simp, World.ownsRow_nil _ _ _ _, fun _ => rfl, CollU.start D0 s, (Below.refl _ _).grown hg0 (Nat.le_refl _) (fun j hj => by cases hj)⟩
  case round =>
    obtain ⟨left, cnt, ss, hrg, hcs, hrow, hne, hC, hnx⟩ := hrel
    go_wp2_with (first
      | (at_next; refine wpList_next_ranges _ rfl _ rfl 33 lawU (plainElem Try.prog 4) (Value.int .u64) (fun v : Value => v) (fun key kl hk => by obtain ⟨x, hx, _⟩ := Maps.keyOf_int_inv Try.underlying33 hk; exact ⟨x, hx⟩) (fun v y hv => ⟨v, rfl⟩) b w.heap.size n _ _ _ rfl hrg ?_ ?_)
      | go_in)
    · -- nothing is left
      intro hc0 hl0
      have hp := hC.perm hown hl0
      have hlen := hp.length_eq
      rw [hF] at hlen
      have hnd := hC.1
      rcases hrow.2 with ⟨rfl, hz⟩ | ⟨g, cap, cur, rfl, hbase, hb, h1, h2, h3, h4⟩
      · have hc := sort_nil wr
        clear hlen
        go_wp2_with (go_at_call 109; refine hc.mono ?_; rintro e w' ⟨rfl, hb'⟩)
        go_ret
        have hlen := hp.length_eq
        rw [hF] at hlen
        exact ⟨_, rfl, .inl ⟨by omega, rfl⟩, hnx.trans (hb'.mono hnx.size)⟩
      · have hpos : 0 < ss.length := by
          cases ss with
          | nil => have := hne rfl; cases this
          | cons p r => simp
        clear hne
        have hgl : g < wr.heap.size := (Array.getElem?_eq_some_iff.1 hb).1
        have h4' : ss.length ≤ 4 := by omega
        have hc := sort_few (n := ss.length) (by omega) h4' rfl hnd (w := wr) (g := g) (cap := cap) hgl h1 (fun j a hj => by
            have hj' : j < ss.length := (List.getElem?_eq_some_iff.1 hj).1
            have h5 : (cur.toList.take (ss.length * 1))[j]? = (ss.map (Value.int .u64))[j]? := by rw [h4]
            rw [List.getElem?_take_of_lt (by omega), List.getElem?_map, hj] at h5
            simp only [World.cell?, hb]
            simpa using h5) (fun i hi => ⟨by
            have : i < cur.size := by omega
            simp [World.cell?, hb, this], by simp [World.frozen?, hb]⟩)
        clear hlen
        go_wp2_with (go_at_call 109; refine hc.mono ?_; rintro e w' ⟨rfl, hgr⟩)
        go_ret
        have hlen := hp.length_eq
        rw [hF] at hlen
        exact ⟨_, rfl, .inr ⟨g, cap, by rw [← hlen]; rfl, by omega, by omega, hbase, Nat.lt_of_lt_of_le hgl hgr.size⟩, hnx.grown hgr hnx.size (fun j hj => by cases hj; exact hbase)⟩
    · -- an entry has come
      intro x c kl yd yp w2 cnt2 hkey hlk hv hat hrg2 hlt hg2 hs2 hen
      obtain ⟨x', ex, rfl, hwx⟩ := Maps.keyOf_int_inv Try.underlying33 hkey
      cases ex
      have hrow2 := hrow.kept hg2 (Or.inr (row_ne_iter hrow hrg).symm)
      clear hs2
      have hsd := fun W => sender_calls x hwx W
      generalize hwh : whose x = sx at hsd
      go_wp2_with (first
        | (go_at_call 108; refine (hsd _).mono ?_; rintro e w' ⟨rfl, hww⟩; rw [hww]; clear hww w')
        | (at_builtin; refine wpList_append_own _ rfl _ _ 74 rfl w.heap.size 33 i0 (.int .u64 0) 1 8 Try.underlying74 hi hz0 hz1 hz2 rfl (by decide) _ _ _ rfl (hrow2.alloc _) ⟨w2.heap.size, 0, none⟩ 1 1 [.int .u64 x] rfl rfl (cell_one_new _ _ _) (by simp [Value.oneCell']) (by unfold maxLen at *; omega) (by omega) (by have := hnx.size; have := hg2.size; simp; omega) ?_; intro v' w3 hown' hg3 hnil3; go_frame)
        | go_in)
      · have hsx : sx = s := by simpa using (by assumption : (sx == s) = true)
        have hrg3 := (hrg2.alloc (.cells #[.int .u64 x] 33)).kept hg3 (row_ne_low hrow2 hbl) (row_ne_iter hrow2 hrg2)
        refine ⟨⟨_, cnt2, ss ++ [x], hrg3, by simp; omega, by simpa using hown', fun h => by simp at h, hC.step (hwh.trans hsx) hlk hat, ?_⟩, by rw [hrg3.left_eq, hrg.left_eq]; exact hlt⟩
        exact ((hnx.grown hg2 hnx.size (fun j hj => by cases hj; exact Nat.le_refl _)).alloc (by have := hnx.size; have := hg2.size; omega) _).grown hg3 (by have := hnx.size; have := hg2.size; simp; omega) (fun j hj => (hrow2.lt j hj).1)
      · have hsx : sx ≠ s := by simpa using (by assumption : (sx == s) = false)
        exact ⟨⟨_, cnt2, ss, hrg2, by omega, hrow2, hne, hC.stays (fun h => hsx (hwh.symm.trans h)), hnx.grown hg2 hnx.size (fun j hj => by cases hj; exact Nat.le_refl _)⟩, by rw [hrg2.left_eq, hrg.left_eq]; exact hlt⟩

end Go.Proofs.Ytcoedmiichppdaa


/-
  Marks, as lists of numbers: the plain law.
-/
namespace Go.Proofs.Ytcoedmiichppdaa
open Go Go.RowKit Go.Maps Go.Am
set_option linter.unusedVariables false
set_option linter.unusedSimpArgs false

/-- The keys of D are L, and each says true. -/
structure Marked {H : Type} (D : DataW H) (L : List Int) : Prop where
  nodup : L.Nodup
  has : ∀ x, Maps.has D (.int .u64 x) = decide (x ∈ L)
  at_ : ∀ x ∈ L, ∀ z, D.atKey (.int .u64 x) z = .lit (.bool true)

theorem litU_ne {x y : Int} (h : x ≠ y) : (Lit.int .u64 x) ≠ .int .u64 y := fun e => by cases e; exact h rfl

theorem Marked.empty {H : Type} : Marked (H := H) (.map []) [] := ⟨List.nodup_nil, fun x => by simp [Maps.has_eq], fun x h => by cases h⟩

theorem Marked.put {H : Type} {D : DataW H} {L : List Int} (h : Marked D L) (hm : IsMap D) {x : Int} (hx : x ∉ L) : Marked (D.put (.int .u64 x) (.lit (.bool true))) (x :: L) := by
  refine ⟨List.nodup_cons.2 ⟨hx, h.nodup⟩, fun y => ?_, fun y hy z => ?_⟩
  · by_cases e : y = x
    · subst e
      rw [has_put_same hm (by trivial)]
      simp
    · rw [has_put_other (litU_ne e), h.has y]
      simp [e]
  · by_cases e : y = x
    · subst e
      exact atKey_put_same hm (by trivial) _ z
    · rw [atKey_put_other (litU_ne e)]
      exact h.at_ y (by simpa [e] using hy) z

theorem Marked.del {H : Type} {D : DataW H} {L : List Int} (h : Marked D L) (x : Int) : Marked (D.del (.int .u64 x)) (L.erase x) := by
  refine ⟨h.nodup.erase x, fun y => ?_, fun y hy z => ?_⟩
  · by_cases e : y = x
    · subst e
      rw [has_del_same]
      simp [h.nodup.mem_erase_iff]
    · rw [has_del_other (litU_ne e), h.has y]
      simp [h.nodup.mem_erase_iff, e]
  · have hm := h.nodup.mem_erase_iff.1 hy
    rw [atKey_del_other (litU_ne hm.1)]
    exact h.at_ y hm.2 z

theorem Marked.atKey {H : Type} {D : DataW H} {L : List Int} (h : Marked D L) (x : Int) : D.atKey (.int .u64 x) (.lit (.bool false)) = .lit (.bool (decide (x ∈ L))) := by
  by_cases e : x ∈ L
  · rw [h.at_ x e]; simp [e]
  · rw [atKey_of_not_has (by rw [h.has]; simp [e])]; simp [e]

/-- Whose are of whom. -/
def ofWho (L : List Int) (s : Int) : List Int := L.filter fun x => decide (whose x = s)

theorem Marked.count {H : Type} {D : DataW H} {L : List Int} (h : Marked D L) {w : World} {b n : Nat} {R : Value → Option (DataW H × List MemPlace)} (hown : w.ownsMap Try.prog 33 R b n D) (s : Int) : ((intKeys D).filter fun x => decide (whose x = s)).length = (ofWho L s).length := by
  have hC : CollU D (fun _ => false) s (ofWho L s) := ⟨h.nodup.filter _, fun x => by simp [ofWho, List.mem_filter, h.has]⟩
  exact (hC.perm hown (fun _ => rfl)).length_eq.symm

/-- Given, in its time, to whom it tells. -/
def MarkOf (g : Nat → Int) (x : Int) : Prop := ∃ (s : Nat) (j : Int), s < 6 ∧ 1 ≤ j ∧ j ≤ g s ∧ x = (s + 1) * 4294967296 + j

def upG (g : Nat → Int) (s : Nat) : Nat → Int := fun i => if i = s then g s + 1 else g i

theorem MarkOf.up {g : Nat → Int} {x : Int} (h : MarkOf g x) (s : Nat) : MarkOf (upG g s) x := by
  obtain ⟨t, j, h1, h2, h3, h4⟩ := h
  refine ⟨t, j, h1, h2, ?_, h4⟩
  unfold upG
  split
  · rename_i e; subst e; omega
  · exact h3

theorem MarkOf.new {g : Nat → Int} {s : Nat} (hs : s < 6) (h0 : 0 ≤ g s) : MarkOf (upG g s) ((s + 1) * 4294967296 + (g s + 1)) :=
  ⟨s, g s + 1, hs, by omega, by simp [upG], rfl⟩

theorem MarkOf.ne {g : Nat → Int} {s : Nat} {x : Int} (hg : ∀ i, g i < 1000000) (h0 : 0 ≤ g s) (h : MarkOf g x) : x ≠ (s + 1) * 4294967296 + (g s + 1) := by
  obtain ⟨t, j, h1, h2, h3, rfl⟩ := h
  intro e
  have := hg t
  have := hg s
  have : (t : Int) = s := by omega
  have : t = s := by omega
  subst this
  omega

theorem whose_new {s : Nat} {j : Int} (h0 : 0 ≤ j) (h1 : j < 4294967296) : whose ((s + 1) * 4294967296 + j) = s := by
  unfold whose; omega

theorem MarkOf.wf {g : Nat → Int} {x : Int} (hg : ∀ i, g i < 1000000) (h : MarkOf g x) : (Lit.int .u64 x).wf = true := by
  obtain ⟨t, j, h1, h2, h3, rfl⟩ := h
  have := hg t
  simp only [Lit.wf, Bool.and_eq_true, decide_eq_true_eq]
  have hm : IntKind.u64.min = 0 := by decide
  have hM : IntKind.u64.max = 18446744073709551615 := by decide
  rw [hm, hM]
  omega

theorem ofWho_cons (L : List Int) (x s : Int) : ofWho (x :: L) s = if whose x = s then x :: ofWho L s else ofWho L s := by
  unfold ofWho
  by_cases h : whose x = s <;> simp [h]

theorem ofWho_erase {L : List Int} (hn : L.Nodup) (x s : Int) : ofWho (L.erase x) s = if whose x = s then (ofWho L s).erase x else ofWho L s := by
  unfold ofWho
  rw [hn.erase_eq_filter, List.filter_filter]
  split
  · rw [List.Nodup.erase_eq_filter (show (L.filter fun x => decide (whose x = s)).Nodup from hn.filter _), List.filter_filter]
    exact List.filter_congr fun y _ => by rw [Bool.and_comm]
  · rename_i h
    refine List.filter_congr fun y _ => ?_
    by_cases e : y = x
    · subst e; simp [h]
    · simp [e]

theorem ofWho_erase_le (L : List Int) (x s : Int) : (ofWho (L.erase x) s).length ≤ (ofWho L s).length :=
  ((List.erase_sublist).filter _).length_le

end Go.Proofs.Ytcoedmiichppdaa


/-
  Package mark: the contracts of its methods.
-/
namespace Go.Proofs.Ytcoedmiichppdaa
open Go Go.RowKit Go.Maps Go.Am
set_option linter.unusedVariables false
set_option linter.unusedSimpArgs false

theorem boolZ (w : World) : (zeroValue 4).run Try.prog w = .ok (.bool false) w := by kernel_rfl

theorem plainElem_bool_inv {H : Type} {v : Value} {z : DataW H × List MemPlace} (h : plainElem Try.prog 4 v = some z) : ∃ x, v = .bool x ∧ z = (.lit (.bool x), []) := by
  cases v <;> simp [plainElem, Try.underlying4] at h
  exact ⟨_, rfl, h.symm⟩

theorem keyU {x : Int} (h : (Lit.int .u64 x).wf = true) : keyOf Try.prog 33 (.int .u64 x) = some (.int .u64 x) := keyOf_int_mk Try.underlying33 h

/-- Marks are at B: given to each; those that are there are L. -/
structure MarksAt (w : World) (B b n : Nat) (g : Nat → Int) (L : List Int) : Prop where
  c : ∀ i, i < 6 → w.cell? ⟨B, i, none⟩ = some (.int .u64 (g i))
  fz : ∀ i, i < 6 → w.frozen? ⟨B, i, none⟩ = false
  ptr : w.cell? ⟨B, 6, none⟩ = some (.map (some b))
  lt : B < w.heap.size
  ne : B ≠ b
  own : ∃ D : DataW Unit, w.ownsMap Try.prog 33 (plainElem Try.prog 4) b n D ∧ Marked D L
  of : ∀ x ∈ L, MarkOf g x
  few : ∀ s, (ofWho L s).length ≤ 4
  gb : ∀ i, 0 ≤ g i ∧ g i ≤ n

theorem MarksAt.kept {w w' : World} {B b n : Nat} {g : Nat → Int} {L : List Int} {l : List Nat} (h : MarksAt w B b n g L) (hg : GrowBut w w' l) (h1 : B ∉ l) (h2 : b ∉ l) : MarksAt w' B b n g L := by
  obtain ⟨D, hown, hD⟩ := h.own
  exact ⟨fun i hi => hg.cell (h.c i hi) h1, fun i hi => hg.frozen h.lt (h.fz i hi) h1, hg.cell h.ptr h1, Nat.lt_of_lt_of_le h.lt hg.size, h.ne, ⟨D, hg.map hown h2, hD⟩, h.of, h.few, h.gb⟩

theorem MarksAt.blt {w : World} {B b n : Nat} {g : Nat → Int} {L : List Int} (h : MarksAt w B b n g L) : b < w.heap.size := by
  obtain ⟨D, hown, hD⟩ := h.own
  exact hown.lt

/-- How many are there, as the row's length. -/
def OfAns (w w' : World) (F : Nat) (v : Value) : Prop := (F = 0 ∧ v = .slice none 0 0) ∨ ∃ g cap, v = .slice (some ⟨g, 0, none⟩) F cap ∧ 0 < F ∧ F ≤ cap ∧ w.heap.size ≤ g ∧ g < w'.heap.size

theorem ofM_calls (B b n : Nat) (g : Nat → Int) (L : List Int) (s : Int) (w : World) (h : MarksAt w B b n g L) (hn : n ≤ 100000) :
    Calls Try.prog 95 #[.pointer (some ⟨B, 0, none⟩), .int .i64 s] w fun e w' => ∃ v, e = .returned v ∧ OfAns w w' (ofWho L s).length v ∧ GrowBut w w' [] := by
  obtain ⟨D, hown, hD⟩ := h.own
  have hc := hD.count hown s
  have := of_calls B 0 b n s D w h.ptr hown (by have := hown.size_le; omega) (by rw [hc]; exact h.few s)
  rw [hc] at this
  exact this.mono fun e w' ⟨v, he, ha, hb⟩ => ⟨v, he, ha, .of_below hb⟩

set_option maxRecDepth 100000 in
set_option maxHeartbeats 2000000 in
theorem isM_calls (B b n : Nat) (g : Nat → Int) (L : List Int) (x : Int) (w : World) (h : MarksAt w B b n g L) (hx : (Lit.int .u64 x).wf = true) :
    Calls Try.prog 110 #[.pointer (some ⟨B, 0, none⟩), .int .u64 x] w fun e w' => e = .returned (.bool (decide (x ∈ L))) ∧ w' = w := by
  obtain ⟨D, hown, hD⟩ := h.own
  have hptr := h.ptr
  obtain ⟨v, ps, hrun, hv⟩ := hown.lookup lawU Try.underlying150 (boolZ w) (plainElem_bool Try.underlying4 false) (keyU hx)
  rw [hD.atKey x] at hv
  obtain ⟨y, rfl, hy⟩ := plainElem_bool_inv hv
  obtain rfl : decide (x ∈ L) = y := by cases hy; rfl
  generalize decide (x ∈ L) = ans at hrun ⊢
  go_enter Try.func110, Try.ntmps110
  go_wp2_with go_in
  all_goals (go_ret; exact ⟨rfl, rfl⟩)

set_option maxRecDepth 100000 in
set_option maxHeartbeats 2000000 in
theorem dropM_calls (B b n : Nat) (g : Nat → Int) (L : List Int) (x : Int) (w : World) (h : MarksAt w B b n g L) (hx : (Lit.int .u64 x).wf = true) :
    Calls Try.prog 98 #[.pointer (some ⟨B, 0, none⟩), .int .u64 x] w fun e w' => e = .returned (.bool (decide (x ∈ L))) ∧ MarksAt w' B b n g (L.erase x) ∧ GrowBut w w' [b] := by
  obtain ⟨D, hown, hD⟩ := h.own
  have hptr := h.ptr
  have hI := isM_calls B b n g L x w h hx
  by_cases hm : x ∈ L
  · rw [decide_eq_true hm] at hI ⊢
    go_enter Try.func98, Try.ntmps98
    go_wp2_with (first
      | (go_at_call 110; refine hI.mono ?_; rintro e w1 ⟨rfl, rfl⟩)
      | (at_delete; refine wpList_delete_own _ rfl _ _ 150 33 rfl 4 lawU Try.underlying150 _ b n D rfl hown _ _ rfl (keyU hx) ?_; intro w2 hown2 hturn2)
      | go_in)
    go_ret
    have hg2 := GrowBut.of_some hturn2.grown
    have hne : B ∉ [b] := by simpa using h.ne
    exact ⟨rfl, ⟨fun i hi => hg2.cell (h.c i hi) hne, fun i hi => hg2.frozen h.lt (h.fz i hi) hne, hg2.cell h.ptr hne, Nat.lt_of_lt_of_le h.lt hg2.size, h.ne, ⟨_, hown2, hD.del x⟩,
      fun y hy => h.of y (List.mem_of_mem_erase hy), fun s => Nat.le_trans (ofWho_erase_le L x s) (h.few s), h.gb⟩, hg2⟩
  · rw [decide_eq_false hm] at hI ⊢
    rw [List.erase_of_not_mem hm]
    go_enter Try.func98, Try.ntmps98
    go_wp2_with (first
      | (go_at_call 110; refine hI.mono ?_; rintro e w1 ⟨rfl, rfl⟩)
      | go_in)
    go_ret
    exact ⟨rfl, h, .refl _ _⟩

set_option maxRecDepth 100000 in
set_option maxHeartbeats 2000000 in
theorem newM_calls (w : World) : Calls Try.prog 69 #[] w fun e w' => ∃ B b, e = .returned (.pointer (some ⟨B, 0, none⟩)) ∧ MarksAt w' B b 0 (fun _ => 0) [] ∧ w.heap.size ≤ B ∧ w.heap.size ≤ b ∧ GrowBut w w' [] := by
  go_enter Try.func69, Try.ntmps69
  have hmm := @run_makeMap Try.prog
  go_wp2_with go_in
  clear hmm
  go_ret
  have hg : GrowBut w ((w.alloc (.map #[] 0)).alloc (.cells #[.int .u64 0, .int .u64 0, .int .u64 0, .int .u64 0, .int .u64 0, .int .u64 0, .map (some w.heap.size)] 152)) [] := (GrowBut.alloc w _ []).trans (GrowBut.alloc _ _ [])
  refine ⟨_, _, rfl, ⟨fun i hi => ?_, fun i hi => ?_, by go_simp, by simp, by simp, ⟨.map [], (World.ownsMap_made w Try.prog 33 _).alloc _, Marked.empty⟩, fun x hx => (by cases hx), fun s => (by simp [ofWho]), fun i => (by simp)⟩, by simp, Nat.le_refl _, hg⟩
  · have : i = 0 ∨ i = 1 ∨ i = 2 ∨ i = 3 ∨ i = 4 ∨ i = 5 := by omega
    rcases this with rfl | rfl | rfl | rfl | rfl | rfl <;> go_simp
  · have : i = 0 ∨ i = 1 ∨ i = 2 ∨ i = 3 ∨ i = 4 ∨ i = 5 := by omega
    rcases this with rfl | rfl | rfl | rfl | rfl | rfl <;> go_simp

set_option maxRecDepth 100000 in
set_option maxHeartbeats 4000000 in
theorem giveM_full (B b n : Nat) (g : Nat → Int) (L : List Int) (s : Nat) (w : World) (h : MarksAt w B b n g L) (hs : s < 6) (hn : n ≤ 1000) (hf : (ofWho L s).length = 4) :
    Calls Try.prog 71 #[.pointer (some ⟨B, 0, none⟩), .int .i64 s] w fun e w' => e = .returned (.tuple #[.int .u64 0, .int .i64 (-3)]) ∧ GrowBut w w' [] := by
  have hO := ofM_calls B b n g L s w h (by omega)
  rw [hf] at hO
  have hs0 : ¬ (s : Int) < 0 := by omega
  have hs6 : ¬ (s : Int) ≥ 6 := by omega
  go_enter Try.func71, Try.ntmps71
  go_wp2_with (first
    | (go_at_call 95; refine hO.mono ?_; rintro e w1 ⟨v, rfl, ⟨h0, _⟩ | ⟨gr, cap, rfl, hF, hcap, hlo, hhi⟩, hg1⟩; first | (exfalso; omega) | skip)
    | go_in)
  go_ret2
  exact ⟨rfl, hg1⟩

theorem cell_setCell_same {w : World} {B i : Nat} {x v : Value} (h : w.cell? ⟨B, i, none⟩ = some x) : (w.setCell ⟨B, i, none⟩ v).cell? ⟨B, i, none⟩ = some v := by
  go_simp

theorem cell_setCell_off {w : World} {B i j : Nat} {x v : Value} (h : w.cell? ⟨B, i, none⟩ = some x) (hne : i ≠ j) : (w.setCell ⟨B, j, none⟩ v).cell? ⟨B, i, none⟩ = some x := by
  have hne' : ¬ j = i := fun e => hne e.symm
  go_simp

theorem frozen_setCell {w : World} {B i j : Nat} {v : Value} : (w.setCell ⟨B, j, none⟩ v).frozen? ⟨B, i, none⟩ = w.frozen? ⟨B, i, none⟩ := by
  go_simp

theorem MarksAt.given {w1 w2 : World} {B b n : Nat} {g : Nat → Int} {L : List Int} (h : MarksAt w1 B b n g L) {s : Nat} (hs : s < 6) (hg1 : ∀ i, g i < 1000000) {gv : Int} (hgv : g s = gv) {D : DataW Unit} (hD : Marked D L)
    (hown : w2.ownsMap Try.prog 33 (plainElem Try.prog 4) b (n + 1) (D.put (.int .u64 ((s + 1) * 4294967296 + (gv + 1))) (.lit (.bool true)))) (hg : ((w1.setCell ⟨B, s, none⟩ (.int .u64 (gv + 1))).drew).grownBy w2 (some b))
    (hm : IsMap D) (hf : (ofWho L s).length ≠ 4) : MarksAt w2 B b (n + 1) (upG g s) (((s + 1) * 4294967296 + (gv + 1)) :: L) ∧ GrowBut w1 w2 [B, b] := by
  subst hgv
  have h0 := (h.gb s).1
  have hnew : ((s + 1) * 4294967296 + (g s + 1)) ∉ L := fun hx => (h.of _ hx).ne hg1 h0 rfl
  have hb : (some B : Option Nat) ≠ some b := by simpa using h.ne
  have hG : GrowBut w1 w2 [B, b] := ((GrowBut.setCell w1 ⟨B, s, none⟩ (.int .u64 (g s + 1))).mono (l' := [B, b]) (by simp)).trans ((GrowBut.drew _ _).trans ((GrowBut.of_some hg).mono (by simp)))
  refine ⟨⟨fun i hi => ?_, fun i hi => ?_, ?_, Nat.lt_of_lt_of_le h.lt hG.size, h.ne, ⟨_, hown, hD.put hm hnew⟩, fun x hx => ?_, fun t => ?_, fun i => ?_⟩, hG⟩
  · refine hg.cell (w := (w1.setCell ⟨B, s, none⟩ (.int .u64 (g s + 1))).drew) ?_ hb
    show (w1.setCell ⟨B, s, none⟩ (.int .u64 (g s + 1))).cell? _ = _
    by_cases e : i = s
    · subst e
      simpa [upG] using cell_setCell_same (v := .int .u64 (g i + 1)) (h.c i hi)
    · simpa [upG, e] using cell_setCell_off (v := .int .u64 (g s + 1)) (h.c i hi) e
  · rw [World.frozen?_of_block (hg.block B (by simpa using h.lt) hb)]
    show (w1.setCell ⟨B, s, none⟩ (.int .u64 (g s + 1))).frozen? _ = _
    rw [frozen_setCell]
    exact h.fz i hi
  · exact hg.cell (w := (w1.setCell ⟨B, s, none⟩ (.int .u64 (g s + 1))).drew) (cell_setCell_off h.ptr (by omega)) hb
  · rcases List.mem_cons.1 hx with rfl | hx
    · exact MarkOf.new hs h0
    · exact (h.of x hx).up s
  · rw [ofWho_cons, whose_new (by omega) (by have := hg1 s; omega)]
    have := h.few t
    split
    · rename_i e
      subst e
      simp only [List.length_cons]
      omega
    · exact this
  · have := h.gb i
    have := h.gb s
    unfold upG
    split <;> omega

set_option maxRecDepth 100000 in
set_option maxHeartbeats 4000000 in
theorem giveM_more (B b n : Nat) (g : Nat → Int) (L : List Int) (s : Nat) (w : World) (h : MarksAt w B b n g L) (hs : s < 6) (hn : n ≤ 1000) (hf : (ofWho L s).length ≠ 4) :
    Calls Try.prog 71 #[.pointer (some ⟨B, 0, none⟩), .int .i64 s] w fun e w' => e = .returned (.tuple #[.int .u64 ((s + 1) * 4294967296 + (g s + 1)), .int .i64 0]) ∧
      MarksAt w' B b (n + 1) (upG g s) (((s + 1) * 4294967296 + (g s + 1)) :: L) ∧ GrowBut w w' [B, b] := by
  have hO := ofM_calls B b n g L s w h (by omega)
  have hfew := h.few s
  have hgs := h.gb s
  have hg1000 : ∀ i, g i < 1000000 := fun i => by have := h.gb i; omega
  have hcs := h.c s hs
  have hlt4 : ((ofWho L s).length : Int) < 4 := by omega
  have hcell : ∀ w1, GrowBut w w1 [] → w1.cell? ⟨B, s, none⟩ = some (.int .u64 (g s)) ∧ w1.frozen? ⟨B, s, none⟩ = false ∧ w1.cell? ⟨B, 6, none⟩ = some (.map (some b)) ∧ MarksAt w1 B b n g L ∧ ∃ D : DataW Unit, w1.ownsMap Try.prog 33 (plainElem Try.prog 4) b n D ∧ Marked D L :=
    fun w1 hg => ⟨hg.cell hcs (by simp), hg.frozen h.lt (h.fz s hs) (by simp), hg.cell h.ptr (by simp), h.kept hg (by simp) (by simp), (h.kept hg (by simp) (by simp)).own⟩
  have hwf : (Lit.int .u64 ((s + 1) * 4294967296 + (g s + 1))).wf = true := (MarkOf.new hs hgs.1).wf (fun i => by unfold upG; have := h.gb i; have := h.gb s; split <;> omega)
  have h6 : s = 0 ∨ s = 1 ∨ s = 2 ∨ s = 3 ∨ s = 4 ∨ s = 5 := by omega
  have hF : ∃ F : Nat, (ofWho L s).length = F := ⟨_, rfl⟩
  obtain ⟨F, hF⟩ := hF
  rw [hF] at hO hlt4
  have hs0 : ¬ (s : Int) < 0 := by omega
  have hs6 : ¬ (s : Int) ≥ 6 := by omega
  generalize hgv : g s = gv at hcell hgs hwf ⊢
  clear hcs
  rcases h6 with rfl | rfl | rfl | rfl | rfl | rfl
  · simp only [Int.cast_ofNat_Int] at *
    go_enter Try.func71, Try.ntmps71
    go_wp2_with (first
      | (go_at_call 95; refine hO.mono ?_; rintro e w1 ⟨v, rfl, ⟨rfl, rfl⟩ | ⟨gr, cap, rfl, hF, hcap, hlo, hhi⟩, hg1⟩; all_goals obtain ⟨c0, f0, c6, hM1, D, hown1, hD⟩ := hcell _ hg1)
      | go_in)
    all_goals go_still_tail 10, (by kernel_rfl)
    all_goals change wpList _ _ _ _ _ w1.drew
    all_goals go_wp2_with (first
      | (at_mapUpdate; refine wpList_mapUpdate_own _ rfl _ _ _ 150 rfl 33 4 lawU Try.underlying150 (plainElem Try.prog 4) b n D rfl (hown1.setCell (Ne.symm h.ne) _).drew (by unfold maxLen; omega) _ _ _ rfl rfl (keyU hwf) _ [] (plainElem_bool Try.underlying4 true) ?_; intro w2 hown2 hg2)
      | go_in)
    all_goals go_ret2
    all_goals exact ⟨rfl, (hM1.given (s := 0) (by omega) hg1000 hgv hD hown2 hg2 hown1.isMap hf).1, (hg1.mono (fun x hx => nomatch hx)).trans (hM1.given (s := 0) (by omega) hg1000 hgv hD hown2 hg2 hown1.isMap hf).2⟩
  · simp only [Int.cast_ofNat_Int] at *
    go_enter Try.func71, Try.ntmps71
    go_wp2_with (first
      | (go_at_call 95; refine hO.mono ?_; rintro e w1 ⟨v, rfl, ⟨rfl, rfl⟩ | ⟨gr, cap, rfl, hF, hcap, hlo, hhi⟩, hg1⟩; all_goals obtain ⟨c0, f0, c6, hM1, D, hown1, hD⟩ := hcell _ hg1)
      | go_in)
    all_goals go_still_tail 10, (by kernel_rfl)
    all_goals change wpList _ _ _ _ _ w1.drew
    all_goals go_wp2_with (first
      | (at_mapUpdate; refine wpList_mapUpdate_own _ rfl _ _ _ 150 rfl 33 4 lawU Try.underlying150 (plainElem Try.prog 4) b n D rfl (hown1.setCell (Ne.symm h.ne) _).drew (by unfold maxLen; omega) _ _ _ rfl rfl (keyU hwf) _ [] (plainElem_bool Try.underlying4 true) ?_; intro w2 hown2 hg2)
      | go_in)
    all_goals go_ret2
    all_goals exact ⟨rfl, (hM1.given (s := 1) (by omega) hg1000 hgv hD hown2 hg2 hown1.isMap hf).1, (hg1.mono (fun x hx => nomatch hx)).trans (hM1.given (s := 1) (by omega) hg1000 hgv hD hown2 hg2 hown1.isMap hf).2⟩
  · simp only [Int.cast_ofNat_Int] at *
    go_enter Try.func71, Try.ntmps71
    go_wp2_with (first
      | (go_at_call 95; refine hO.mono ?_; rintro e w1 ⟨v, rfl, ⟨rfl, rfl⟩ | ⟨gr, cap, rfl, hF, hcap, hlo, hhi⟩, hg1⟩; all_goals obtain ⟨c0, f0, c6, hM1, D, hown1, hD⟩ := hcell _ hg1)
      | go_in)
    all_goals go_still_tail 10, (by kernel_rfl)
    all_goals change wpList _ _ _ _ _ w1.drew
    all_goals go_wp2_with (first
      | (at_mapUpdate; refine wpList_mapUpdate_own _ rfl _ _ _ 150 rfl 33 4 lawU Try.underlying150 (plainElem Try.prog 4) b n D rfl (hown1.setCell (Ne.symm h.ne) _).drew (by unfold maxLen; omega) _ _ _ rfl rfl (keyU hwf) _ [] (plainElem_bool Try.underlying4 true) ?_; intro w2 hown2 hg2)
      | go_in)
    all_goals go_ret2
    all_goals exact ⟨rfl, (hM1.given (s := 2) (by omega) hg1000 hgv hD hown2 hg2 hown1.isMap hf).1, (hg1.mono (fun x hx => nomatch hx)).trans (hM1.given (s := 2) (by omega) hg1000 hgv hD hown2 hg2 hown1.isMap hf).2⟩
  · simp only [Int.cast_ofNat_Int] at *
    go_enter Try.func71, Try.ntmps71
    go_wp2_with (first
      | (go_at_call 95; refine hO.mono ?_; rintro e w1 ⟨v, rfl, ⟨rfl, rfl⟩ | ⟨gr, cap, rfl, hF, hcap, hlo, hhi⟩, hg1⟩; all_goals obtain ⟨c0, f0, c6, hM1, D, hown1, hD⟩ := hcell _ hg1)
      | go_in)
    all_goals go_still_tail 10, (by kernel_rfl)
    all_goals change wpList _ _ _ _ _ w1.drew
    all_goals go_wp2_with (first
      | (at_mapUpdate; refine wpList_mapUpdate_own _ rfl _ _ _ 150 rfl 33 4 lawU Try.underlying150 (plainElem Try.prog 4) b n D rfl (hown1.setCell (Ne.symm h.ne) _).drew (by unfold maxLen; omega) _ _ _ rfl rfl (keyU hwf) _ [] (plainElem_bool Try.underlying4 true) ?_; intro w2 hown2 hg2)
      | go_in)
    all_goals go_ret2
    all_goals exact ⟨rfl, (hM1.given (s := 3) (by omega) hg1000 hgv hD hown2 hg2 hown1.isMap hf).1, (hg1.mono (fun x hx => nomatch hx)).trans (hM1.given (s := 3) (by omega) hg1000 hgv hD hown2 hg2 hown1.isMap hf).2⟩
  · simp only [Int.cast_ofNat_Int] at *
    go_enter Try.func71, Try.ntmps71
    go_wp2_with (first
      | (go_at_call 95; refine hO.mono ?_; rintro e w1 ⟨v, rfl, ⟨rfl, rfl⟩ | ⟨gr, cap, rfl, hF, hcap, hlo, hhi⟩, hg1⟩; all_goals obtain ⟨c0, f0, c6, hM1, D, hown1, hD⟩ := hcell _ hg1)
      | go_in)
    all_goals go_still_tail 10, (by kernel_rfl)
    all_goals change wpList _ _ _ _ _ w1.drew
    all_goals go_wp2_with (first
      | (at_mapUpdate; refine wpList_mapUpdate_own _ rfl _ _ _ 150 rfl 33 4 lawU Try.underlying150 (plainElem Try.prog 4) b n D rfl (hown1.setCell (Ne.symm h.ne) _).drew (by unfold maxLen; omega) _ _ _ rfl rfl (keyU hwf) _ [] (plainElem_bool Try.underlying4 true) ?_; intro w2 hown2 hg2)
      | go_in)
    all_goals go_ret2
    all_goals exact ⟨rfl, (hM1.given (s := 4) (by omega) hg1000 hgv hD hown2 hg2 hown1.isMap hf).1, (hg1.mono (fun x hx => nomatch hx)).trans (hM1.given (s := 4) (by omega) hg1000 hgv hD hown2 hg2 hown1.isMap hf).2⟩
  · simp only [Int.cast_ofNat_Int] at *
    go_enter Try.func71, Try.ntmps71
    go_wp2_with (first
      | (go_at_call 95; refine hO.mono ?_; rintro e w1 ⟨v, rfl, ⟨rfl, rfl⟩ | ⟨gr, cap, rfl, hF, hcap, hlo, hhi⟩, hg1⟩; all_goals obtain ⟨c0, f0, c6, hM1, D, hown1, hD⟩ := hcell _ hg1)
      | go_in)
    all_goals go_still_tail 10, (by kernel_rfl)
    all_goals change wpList _ _ _ _ _ w1.drew
    all_goals go_wp2_with (first
      | (at_mapUpdate; refine wpList_mapUpdate_own _ rfl _ _ _ 150 rfl 33 4 lawU Try.underlying150 (plainElem Try.prog 4) b n D rfl (hown1.setCell (Ne.symm h.ne) _).drew (by unfold maxLen; omega) _ _ _ rfl rfl (keyU hwf) _ [] (plainElem_bool Try.underlying4 true) ?_; intro w2 hown2 hg2)
      | go_in)
    all_goals go_ret2
    all_goals exact ⟨rfl, (hM1.given (s := 5) (by omega) hg1000 hgv hD hown2 hg2 hown1.isMap hf).1, (hg1.mono (fun x hx => nomatch hx)).trans (hM1.given (s := 5) (by omega) hg1000 hgv hD hown2 hg2 hown1.isMap hf).2⟩

end Go.Proofs.Ytcoedmiichppdaa


/-
  Package pact: what is in memory.
-/
namespace Go.Proofs.Ytcoedmiichppdaa
open Go Go.RowKit Go.Maps Go.Am
set_option linter.unusedVariables false
set_option linter.unusedSimpArgs false

structure DealR where
  kind : Int
  sender : Int
  zero : Bool
  recvs : List (Int × Int)
  spans : List (Int × Int)

/-- A deal that is there. -/
structure PactR where
  sender : Int
  kind : Int
  bytes : List Int
  all : Int
  offered : Bool
  d : DealR
  frames : List Int
  takers : List Int

def encPr (l : List (Int × Int)) : List Value := l.flatMap fun x => [.int .i64 x.1, .int .i64 x.2]

/-- A row that m owns. -/
def RowOf (w : World) (ow : Nat → Int) (m : Int) (e : TypeId) (size : Nat) (v : Value) (n : Nat) (xs : List Value) : Prop := w.ownsRow 0 e size v n xs ∧ ∀ g, v.ownBlock = some g → ow g = m

theorem RowOf.step {w w' : World} {ow ow' : Nat → Int} {m : Int} {e : TypeId} {size : Nat} {v : Value} {n : Nat} {xs : List Value} {l : List Nat} (h : RowOf w ow m e size v n xs) (hg : GrowBut w w' l) (hl : ∀ x ∈ l, x < w.heap.size → ow x ≠ m) (ho : ∀ x, x < w.heap.size → ow' x = ow x) : RowOf w' ow' m e size v n xs := by
  have hlt := h.1.lt
  exact ⟨hg.row h.1 (fun j hj hm => hl j hm (hlt j hj).2 (h.2 j hj)), fun g hg' => by rw [ho g (hlt g hg').2]; exact h.2 g hg'⟩

/-- A block of that type. -/
def Typed (w : World) (B : Nat) (e : TypeId) : Prop := ∃ cur, w.heap[B]? = some (.cells cur e (0, 0))

theorem Typed.lt {w : World} {B : Nat} {e : TypeId} (h : Typed w B e) : B < w.heap.size := by
  obtain ⟨cur, h⟩ := h
  exact (Array.getElem?_eq_some_iff.1 h).1

theorem Typed.kept {w w' : World} {B : Nat} {e : TypeId} {l : List Nat} (h : Typed w B e) (hg : GrowBut w w' l) (hn : B ∉ l) : Typed w' B e := by
  have hB := h.lt
  obtain ⟨cur, h⟩ := h
  exact ⟨cur, by rw [hg.block B hB hn]; exact h⟩

theorem Typed.setCell {w : World} {B : Nat} {e : TypeId} (h : Typed w B e) (b o : Nat) (v : Value) : Typed (w.setCell ⟨b, o, none⟩ v) B e := by
  obtain ⟨cur, h⟩ := h
  by_cases hb : b = B
  · subst hb
    exact ⟨_, heap_setCell_same w b o cur e v h⟩
  · exact ⟨cur, by rw [RowKit.Below.heap_setCell _ _ _ _ (fun e' => hb e'.symm)]; exact h⟩

theorem Typed.alloc (w : World) (cs : Array Value) (e : TypeId) : Typed (w.alloc (.cells cs e)) w.heap.size e := ⟨cs, by
  show (w.heap.push _)[w.heap.size]? = _
  exact Array.getElem?_push_size⟩

theorem Typed.ne {w : World} {B B' : Nat} {e e' : TypeId} (h : Typed w B e) (h' : Typed w B' e') (hne : e ≠ e') : B ≠ B' := by
  rintro rfl
  obtain ⟨c, h⟩ := h
  obtain ⟨c', h'⟩ := h'
  rw [h] at h'
  injection h' with h1
  injection h1 with _ h2
  exact hne h2

theorem Typed.ne_row {w : World} {B : Nat} {e e' : TypeId} {base size n : Nat} {v : Value} {xs : List Value} (h : Typed w B e) (h' : w.ownsRow base e' size v n xs) (hne : e ≠ e') : B ∉ v.ownBlock.toList := by
  intro hm
  rcases h'.2 with ⟨rfl, _⟩ | ⟨g, cap, cur, rfl, _, hg, _⟩
  · cases hm
  · simp [Value.ownBlock] at hm
    subst hm
    exact (Typed.ne h ⟨cur, hg⟩ hne) rfl

theorem Typed.ne_tab {w : World} {B : Nat} {e : TypeId} {q : IntKind} {kt : TypeId} {T n : Nat} {f : Int → Option Value} (h : Typed w B e) (h' : TabAt w q kt T n f) : B ≠ T := by
  rintro rfl
  obtain ⟨c, h⟩ := h
  obtain ⟨D, ⟨es, clock, hb, _⟩, _⟩ := h'.own
  rw [hb] at h; cases h

/-- The bytes that came. -/
def PiecesAt (w : World) (ow : Nat → Int) (m : Int) (Y : Nat) (bytes : List Int) (all : Int) : Prop :=
  ow Y = m ∧ Typed w Y 154 ∧ (∃ v, w.cell? ⟨Y, 0, none⟩ = some v ∧ RowOf w ow m 5 1 v bytes.length (bytes.map (Value.int .u8))) ∧ w.cell? ⟨Y, 1, none⟩ = some (.int .i64 all) ∧ w.frozen? ⟨Y, 0, none⟩ = false

theorem PiecesAt.step {w w' : World} {ow ow' : Nat → Int} {m : Int} {Y : Nat} {bytes : List Int} {all : Int} {l : List Nat} (h : PiecesAt w ow m Y bytes all) (hg : GrowBut w w' l) (hl : ∀ x ∈ l, x < w.heap.size → ow x ≠ m) (ho : ∀ x, x < w.heap.size → ow' x = ow x) : PiecesAt w' ow' m Y bytes all := by
  obtain ⟨h1, ht, ⟨v, h2, h3⟩, h4, h5⟩ := h
  have hY := cell_lt h4
  have hn : Y ∉ l := fun hm => hl Y hm hY h1
  exact ⟨by rw [ho Y hY]; exact h1, ht.kept hg hn, ⟨v, hg.cell h2 hn, h3.step hg hl ho⟩, hg.cell h4 hn, hg.frozen hY h5 hn⟩

/-- A deal lies at X; all that it is of belongs to m. -/
structure PactAt (w : World) (ow : Nat → Int) (m : Int) (X N : Nat) (r : PactR) : Prop where
  own : ow X = m
  ty : Typed w X 122
  c0 : w.cell? ⟨X, 0, none⟩ = some (.int .i64 r.sender)
  c1 : w.cell? ⟨X, 1, none⟩ = some (.int .i64 r.kind)
  c2 : ∃ Y, w.cell? ⟨X, 2, none⟩ = some (.pointer (some ⟨Y, 0, none⟩)) ∧ PiecesAt w ow m Y r.bytes r.all
  c3 : w.cell? ⟨X, 3, none⟩ = some (.bool r.offered)
  c4 : w.cell? ⟨X, 4, none⟩ = some (.int .i64 r.d.kind)
  c5 : w.cell? ⟨X, 5, none⟩ = some (.int .i64 r.d.sender)
  c6 : w.cell? ⟨X, 6, none⟩ = some (.bool r.d.zero)
  c7 : ∃ v, w.cell? ⟨X, 7, none⟩ = some v ∧ RowOf w ow m 52 2 v r.d.recvs.length (encPr r.d.recvs)
  c8 : ∃ v, w.cell? ⟨X, 8, none⟩ = some v ∧ RowOf w ow m 55 2 v r.d.spans.length (encPr r.d.spans)
  c9 : ∃ v, w.cell? ⟨X, 9, none⟩ = some v ∧ RowOf w ow m 3 1 v r.frames.length (r.frames.map (Value.int .i64))
  c10 : ∃ T, w.cell? ⟨X, 10, none⟩ = some (.map (some T)) ∧ ow T = m ∧ TabAt w .i64 3 T N (seenS r.takers)
  nd : r.takers.Nodup
  fz : ∀ i, i < 11 → w.frozen? ⟨X, i, none⟩ = false

theorem PactAt.step {w w' : World} {ow ow' : Nat → Int} {m : Int} {X N : Nat} {r : PactR} {l : List Nat} (h : PactAt w ow m X N r) (hg : GrowBut w w' l) (hl : ∀ x ∈ l, x < w.heap.size → ow x ≠ m) (ho : ∀ x, x < w.heap.size → ow' x = ow x) : PactAt w' ow' m X N r := by
  have hX := cell_lt h.c0
  have hn : X ∉ l := fun hm => hl X hm hX h.own
  obtain ⟨Y, h2, h2'⟩ := h.c2
  obtain ⟨v7, h7, h7'⟩ := h.c7
  obtain ⟨v8, h8, h8'⟩ := h.c8
  obtain ⟨v9, h9, h9'⟩ := h.c9
  obtain ⟨T, hT, hTo, hTt⟩ := h.c10
  have hTl := hTt.blt
  exact ⟨by rw [ho X hX]; exact h.own, h.ty.kept hg hn, hg.cell h.c0 hn, hg.cell h.c1 hn, ⟨Y, hg.cell h2 hn, h2'.step hg hl ho⟩, hg.cell h.c3 hn, hg.cell h.c4 hn, hg.cell h.c5 hn, hg.cell h.c6 hn,
    ⟨v7, hg.cell h7 hn, h7'.step hg hl ho⟩, ⟨v8, hg.cell h8 hn, h8'.step hg hl ho⟩, ⟨v9, hg.cell h9 hn, h9'.step hg hl ho⟩, ⟨T, hg.cell hT hn, by rw [ho T hTl]; exact hTo, hTt.kept hg (fun hm => hl T hm hTl hTo)⟩, h.nd, fun i hi => hg.frozen hX (h.fz i hi) hn⟩

theorem PactAt.mono {w : World} {ow : Nat → Int} {m : Int} {X N N' : Nat} {r : PactR} (h : PactAt w ow m X N r) (hn : N ≤ N') : PactAt w ow m X N' r := by
  obtain ⟨T, hT, hTo, hTt⟩ := h.c10
  exact ⟨h.own, h.ty, h.c0, h.c1, h.c2, h.c3, h.c4, h.c5, h.c6, h.c7, h.c8, h.c9, ⟨T, hT, hTo, hTt.mono hn⟩, h.nd, h.fz⟩

/-- What a mark's entry of the map of deals says. -/
def DealSays (w : World) (ow : Nat → Int) (N : Nat) (m : Int) (o : Option Value) : Option PactR → Prop
  | none => o = none
  | some r => ∃ X, o = some (.pointer (some ⟨X, 0, none⟩)) ∧ PactAt w ow m X N r

theorem DealSays.step {w w' : World} {ow ow' : Nat → Int} {m : Int} {N N' : Nat} {o : Option Value} {x : Option PactR} {l : List Nat} (h : DealSays w ow N m o x) (hg : GrowBut w w' l) (hl : ∀ x ∈ l, x < w.heap.size → ow x ≠ m) (ho : ∀ x, x < w.heap.size → ow' x = ow x) (hN : N ≤ N') : DealSays w' ow' N' m o x := by
  cases x with
  | none => exact h
  | some r =>
    obtain ⟨X, h1, h2⟩ := h
    exact ⟨X, h1, (h2.step hg hl ho).mono hN⟩

/-- What its entry of the map of events says: its row belongs to -m - 10. -/
def EventSays (w : World) (ow : Nat → Int) (m : Int) (o : Option Value) (l : List Int) : Prop := ∃ v, o.getD (.slice none 0 0) = v ∧ RowOf w ow (-m - 10) 3 1 v l.length (l.map (Value.int .i64))

theorem EventSays.step {w w' : World} {ow ow' : Nat → Int} {m : Int} {o : Option Value} {es : List Int} {l : List Nat} (h : EventSays w ow m o es) (hg : GrowBut w w' l) (hl : ∀ x ∈ l, x < w.heap.size → ow x ≠ -m - 10) (ho : ∀ x, x < w.heap.size → ow' x = ow x) : EventSays w' ow' m o es := by
  obtain ⟨v, h1, h2⟩ := h
  exact ⟨v, h1, h2.step hg hl ho⟩

/-- Deals are at P. -/
structure PactsAt (w : World) (ow : Nat → Int) (P MB b LB EB N : Nat) (g : Nat → Int) (L : List Int) (deals : Int → Option PactR) (events : Int → List Int) : Prop where
  p0 : w.cell? ⟨P, 0, none⟩ = some (.pointer (some ⟨MB, 0, none⟩))
  p1 : w.cell? ⟨P, 1, none⟩ = some (.map (some LB))
  p2 : w.cell? ⟨P, 2, none⟩ = some (.map (some EB))
  marks : MarksAt w MB b N g L
  own : ow P = -1 ∧ ow MB = -1 ∧ ow b = -1 ∧ ow LB = -1 ∧ ow EB = -1
  ne : P ≠ MB ∧ P ≠ b ∧ P ≠ LB ∧ P ≠ EB ∧ MB ≠ LB ∧ MB ≠ EB ∧ b ≠ LB ∧ b ≠ EB ∧ LB ≠ EB
  tl : ∃ fl, TabAt w .u64 33 LB N fl ∧ ∀ m, DealSays w ow N m (fl m) (deals m)
  te : ∃ fe, TabAt w .u64 33 EB N fe ∧ ∀ m, 0 ≤ m → EventSays w ow m (fe m) (events m)
  pos : ∀ m, deals m ≠ none ∨ events m ≠ [] → 0 < m

end Go.Proofs.Ytcoedmiichppdaa


/-
  Package piece: its methods.
-/
namespace Go.Proofs.Ytcoedmiichppdaa
open Go Go.RowKit Go.Maps Go.Am
set_option linter.unusedVariables false
set_option linter.unusedSimpArgs false

/-- What is new belongs to m. -/
def owN (ow : Nat → Int) (w : World) (m : Int) : Nat → Int := fun k => if k < w.heap.size then ow k else m

theorem owN_old {ow : Nat → Int} {w : World} {m : Int} : ∀ x, x < w.heap.size → owN ow w m x = ow x := fun x hx => by unfold owN; rw [if_pos hx]

theorem owN_new {ow : Nat → Int} {w : World} {m : Int} {x : Nat} (hx : w.heap.size ≤ x) : owN ow w m x = m := by unfold owN; rw [if_neg (by omega)]

theorem Typed.of_row {w : World} {base : Nat} {e : TypeId} {size n : Nat} {v : Value} {xs : List Value} {g : Nat} (h : w.ownsRow base e size v n xs) (hg : v.ownBlock = some g) : Typed w g e := by
  rcases h.2 with ⟨rfl, _⟩ | ⟨g', cap, cur, rfl, _, hb, _⟩
  · cases hg
  · simp [Value.ownBlock] at hg
    subst hg
    exact ⟨cur, hb⟩

theorem infoB : (Try.prog.info? 5).map (fun i => (i.zero, i.size, i.bytes)) = some (some (.int .u8 0), 1, 1) := by kernel_rfl

theorem setCell_cell {w : World} {a : Addr} {x v : Value} (h : w.cell? a = some x) : (w.setCell a v).cell? a = some v := World.cell?_setCell_same _ _ _ h

set_option maxRecDepth 100000 in
set_option maxHeartbeats 2000000 in
theorem left_calls (Y : Nat) (ow : Nat → Int) (m : Int) (bytes : List Int) (all : Nat) (w : World) (h : PiecesAt w ow m Y bytes all) (ha : all ≤ 400) (hb : bytes.length ≤ all) :
    Calls Try.prog 76 #[.pointer (some ⟨Y, 0, none⟩)] w fun e w' => e = .returned (.int .i64 ((all - bytes.length : Nat) : Int)) ∧ GrowBut w w' [] := by
  obtain ⟨_, _, ⟨v, c0, hrow⟩, c1, _⟩ := h
  obtain ⟨s, cp, rfl⟩ := row_form hrow.1
  have hd : (all : Int) - (bytes.length : Int) = ((all - bytes.length : Nat) : Int) := by omega
  have hwr := IntWalk.i64_in ((all - bytes.length : Nat) : Int) (by omega)
  generalize all - bytes.length = r at hd hwr ⊢
  go_enter Try.func76, Try.ntmps76
  go_upto_region 3 with fail
  go_quiet (fail)
  go_wp2_with fail
  go_ret
  exact ⟨rfl, .drewN _ _ _⟩

set_option maxRecDepth 100000 in
set_option maxHeartbeats 2000000 in
theorem newPc_calls (all : Nat) (w : World) (h1 : 1 ≤ all) (ha : all ≤ 400) :
    Calls Try.prog 70 #[.int .i64 all] w fun e w' => e = .returned (.tuple #[.pointer (some ⟨w.heap.size, 0, none⟩), .bool true]) ∧ w' = w.alloc (.cells #[.slice none 0 0, .int .i64 all] 154) := by
  have d1 : decide ((all : Int) < 1) = false := decide_eq_false (by omega)
  have d2 : decide (400 < (all : Int)) = false := decide_eq_false (by omega)
  go_enter Try.func70, Try.ntmps70
  go_wp2_with fail
  go_ret2
  exact ⟨rfl, rfl⟩

theorem newPc_at (all : Int) (w : World) (ow : Nat → Int) (m : Int) : PiecesAt (w.alloc (.cells #[.slice none 0 0, .int .i64 all] 154)) (owN ow w m) m w.heap.size [] all := by
  refine ⟨owN_new (Nat.le_refl _), Typed.alloc _ _ _, ⟨.slice none 0 0, by go_simp, World.ownsRow_nil _ _ _ _, fun g hg => by cases hg⟩, by go_simp, by go_simp⟩

set_option maxRecDepth 100000 in
set_option maxHeartbeats 4000000 in
theorem add_ok (Y : Nat) (ow : Nat → Int) (m : Int) (bytes : List Int) (all : Nat) (g off c : Nat) (ys : List Int) (w : World) (h : PiecesAt w ow m Y bytes all) (ha : all ≤ 400) (hb : bytes.length + ys.length ≤ all) (h0 : 0 < ys.length)
    (hy : ∀ j, j < ys.length → w.cell? ⟨g, off + j, none⟩ = some (.int .u8 (ys.getD j 0))) :
    Calls Try.prog 74 #[.pointer (some ⟨Y, 0, none⟩), .slice (some ⟨g, off, none⟩) ys.length c] w fun e w' => e = .returned (.tuple #[.bool (decide (bytes.length + ys.length = all)), .int .i64 0]) ∧ PiecesAt w' (owN ow w m) m Y (bytes ++ ys) all ∧ ∃ l, GrowBut w w' l ∧ ∀ x ∈ l, ow x = m ∧ (Typed w x 154 ∨ Typed w x 5) := by
  have hL := left_calls Y ow m bytes all w h ha (by omega)
  obtain ⟨hoY, hty, ⟨v, c0, hrow⟩, c1, hf⟩ := h
  obtain ⟨s, cp, rfl⟩ := row_form hrow.1
  have hYl := cell_lt c1
  simp only at hYl
  obtain ⟨i0, hi, hz0, hz1, hz2⟩ := info_parts infoB
  have d0 : ((ys.length : Int) == 0) = false := by rw [beq_eq_false_iff_ne]; omega
  have d1 : decide (((all - bytes.length : Nat) : Int) < (ys.length : Int)) = false := decide_eq_false (by omega)
  have d1' : ¬ all - bytes.length < ys.length := by omega
  go_enter Try.func74, Try.ntmps74
  go_upto_region 3 with (first
    | (go_at_call 76; (refine hL.mono ?_; clear hL; rintro e w1 ⟨rfl, hg1⟩; have c01 := hg1.cell c0 (by simp); have c11 := hg1.cell c1 (by simp); have hf1 := hg1.frozen (a := ⟨Y, 0, none⟩) hYl hf (by simp); have hrow1 := hg1.row hrow.1 (by simp)))
    | fail)
  have hnews : ∀ (j : Nat) u, (ys.map (Value.int .u8))[j]? = some u → w1.cell? ((⟨g, off, none⟩ : Addr).add j) = some u := fun j u hu => by
    rw [List.getElem?_map] at hu
    obtain ⟨x, hx, rfl⟩ := Option.map_eq_some_iff.1 hu
    obtain ⟨hj, hx'⟩ := List.getElem?_eq_some_iff.1 hx
    have := hg1.cell (hy j hj) (by simp)
    rw [List.getD_eq_getElem?_getD, hx] at this
    have hadd : Addr.add ⟨g, off, none⟩ j = ⟨g, off + j, none⟩ := by
      unfold Addr.add
      by_cases hk : j = 0 <;> simp [hk]
    rw [hadd]; exact this
  have hone : ∀ u ∈ ys.map (Value.int .u8), u.oneCell' = true := fun u hu => by
    obtain ⟨x, _, rfl⟩ := List.mem_map.1 hu; simp [Value.oneCell']
  have hlt1 := hrow1.lt
  have hty1 := hty.kept hg1 (by simp)
  have hYo : Y ∉ (Value.slice s bytes.length cp).ownBlock.toList := hty1.ne_row hrow1 (by decide)
  go_upto_region 4 with (first
    | (at_builtin; (refine wpList_append_own_at _ rfl _ _ 48 rfl 0 5 i0 (.int .u8 0) 1 1 Try.underlying48 hi hz0 hz1 hz2 rfl (by decide) _ _ _ rfl hrow1 ⟨g, off, none⟩ ys.length c (ys.map (Value.int .u8)) rfl (by simp) hnews hone (by unfold maxLen; omega) (by omega) (by omega) ?_; intro v' w4 hown4 hg4 hnil4 hat4; have hg4' := GrowBut.of_rowZ (o := (Value.slice s bytes.length cp).ownBlock) hg4; have hat5 : v'.ownBlock = (Value.slice s bytes.length cp).ownBlock ∨ v'.ownBlock = some w1.heap.size := hat4; clear hat4 hg4 hnil4; have c04 := hg4'.cell c01 hYo; have hf4 := hg4'.frozen (a := ⟨Y, 0, none⟩) (by have := cell_lt c01; exact this) hf1 hYo; obtain ⟨s4, cp4, rfl⟩ := row_form hown4; go_frame))
    | fail)
  have hset := GrowBut.setCell w4 ⟨Y, 0, none⟩ (.slice s4 (bytes.length + ys.length) cp4)
  have hty5 := (hty1.kept hg4' hYo).setCell Y 0 (.slice s4 (bytes.length + ys.length) cp4)
  have hYo4 : Y ∉ (Value.slice s4 (bytes.length + ys.length) cp4).ownBlock.toList := (hty1.kept hg4' hYo).ne_row hown4 (by decide)
  have hP : PiecesAt (w4.setCell ⟨Y, 0, none⟩ (.slice s4 (bytes.length + ys.length) cp4)) (owN ow w m) m Y (bytes ++ ys) all := by
    refine ⟨by rw [owN_old Y hYl]; exact hoY, hty5, ⟨_, setCell_cell c04, ?_, fun g' hg' => ?_⟩, ?_, ?_⟩
    · rw [List.length_append, List.map_append]
      exact hset.row hown4 (fun j hj hm => hYo4 (by simp at hm; subst hm; simpa using hj))
    · rcases hat5 with h1 | h1
      · rw [hg'] at h1
        have := hrow.2 g' h1.symm
        rw [owN_old g' (hrow.1.lt g' h1.symm).2]; exact this
      · rw [hg'] at h1
        simp only [Option.some.injEq] at h1
        have := hg1.size
        exact owN_new (by omega)
    · have := hg4'.cell c11 hYo
      go_simp
    · go_simp
  have hL2 := left_calls Y _ m (bytes ++ ys) all _ hP ha (by rw [List.length_append]; exact hb)
  rw [List.length_append] at hL2
  have hG5 : GrowBut w (w4.setCell ⟨Y, 0, none⟩ (.slice s4 (bytes.length + ys.length) cp4)) ((Value.slice s bytes.length cp).ownBlock.toList ++ [Y]) :=
    ((hg1.mono (by simp)).trans (hg4'.mono (fun x hx => List.mem_append.2 (.inl hx)))).trans (hset.mono (fun x hx => List.mem_append.2 (.inr hx)))
  have hGo : ∀ x ∈ (Value.slice s bytes.length cp).ownBlock.toList ++ [Y], ow x = m ∧ (Typed w x 154 ∨ Typed w x 5) := fun x hx => by
    rcases List.mem_append.1 hx with h | h
    · exact ⟨hrow.2 x (by simpa using h), .inr (Typed.of_row hrow.1 (by simpa using h))⟩
    · simp at h; subst h; exact ⟨hoY, .inl hty⟩
  have hdd : (((all - (bytes.length + ys.length) : Nat) : Int) == 0) = decide (bytes.length + ys.length = all) := by
    by_cases e : bytes.length + ys.length = all
    · rw [decide_eq_true e, beq_iff_eq]; omega
    · rw [decide_eq_false e, beq_eq_false_iff_ne]; omega
  generalize all - (bytes.length + ys.length) = r at hL2 hdd
  obtain ⟨dd, hdd'⟩ : ∃ dd, decide (bytes.length + ys.length = all) = dd := ⟨_, rfl⟩
  rw [hdd'] at hdd
  go_wp2_with (first
    | (go_at_call 76; (refine hL2.mono ?_; clear hL2; rintro e w6 ⟨rfl, hg6⟩))
    | fail)
  go_ret2
  refine ⟨?_, hP.step hg6 (fun x hx => by cases hx) (fun x hx => rfl), _, hG5.trans (hg6.mono (by simp)), hGo⟩
  first | rfl | (rw [hdd']; rfl)

set_option maxRecDepth 100000 in
set_option maxHeartbeats 2000000 in
theorem add_no (Y : Nat) (ow : Nat → Int) (m : Int) (bytes : List Int) (all : Nat) (s1 : Option Addr) (n c : Nat) (w : World) (h : PiecesAt w ow m Y bytes all) (ha : all ≤ 400) (hb : bytes.length ≤ all) (hno : n = 0 ∨ all < bytes.length + n) (hn : n ≤ 100000) :
    Calls Try.prog 74 #[.pointer (some ⟨Y, 0, none⟩), .slice s1 n c] w fun e w' => e = .returned (.tuple #[.bool false, .int .i64 (-2)]) ∧ GrowBut w w' [] := by
  have hL := left_calls Y ow m bytes all w h ha hb
  rcases Nat.eq_zero_or_pos n with rfl | h0
  · go_enter Try.func74, Try.ntmps74
    go_wp2_with fail
    go_ret2
    exact ⟨rfl, .refl _ _⟩
  · have d0 : ((n : Int) == 0) = false := by rw [beq_eq_false_iff_ne]; omega
    have d0' : ¬ n = 0 := by omega
    have d1 : decide (((all - bytes.length : Nat) : Int) < (n : Int)) = true := decide_eq_true (by omega)
    have d1' : all - bytes.length < n := by omega
    go_enter Try.func74, Try.ntmps74
    go_wp2_with (first
      | (go_at_call 76; (refine hL.mono ?_; clear hL; rintro e w1 ⟨rfl, hg1⟩))
      | fail)
    go_ret2
    exact ⟨rfl, hg1⟩

set_option maxRecDepth 100000 in
set_option maxHeartbeats 2000000 in
theorem bytes_calls (Y : Nat) (ow : Nat → Int) (m : Int) (bytes : List Int) (all : Nat) (w : World) (h : PiecesAt w ow m Y bytes all) (h0 : 0 < bytes.length) (hb : bytes.length ≤ 400) :
    Calls Try.prog 75 #[.pointer (some ⟨Y, 0, none⟩)] w fun e w' => ∃ v, e = .returned v ∧ w'.ownsRow w.heap.size 5 1 v bytes.length (bytes.map (Value.int .u8)) ∧ GrowBut w w' [] := by
  obtain ⟨_, _, ⟨v, c0, hrow⟩, c1, _⟩ := h
  obtain ⟨i0, hi, hz0, hz1, hz2⟩ := info_parts infoB
  have hYl : Y < w.heap.size := cell_lt c1
  obtain ⟨gb, cp, rfl, _, hgl⟩ := row_block hrow.1 h0
  have hga := GrowBut.alloc w (.cells #[] 5) []
  have hlit := World.ownsRow_lit (base := w.heap.size) (e := 5) (size := 1) w #[] 0 (Nat.le_refl _) (by unfold maxLen; omega) rfl
  have hnews : ∀ (j : Nat) u, (bytes.map (Value.int .u8))[j]? = some u → (w.alloc (.cells #[] 5)).cell? ((⟨gb, 0, none⟩ : Addr).add j) = some u := fun j u hu => by
    have hj : j < bytes.length := by
      obtain ⟨hj, _⟩ := List.getElem?_eq_some_iff.1 hu
      simpa using hj
    have hadd : Addr.add ⟨gb, 0, none⟩ j = ⟨gb, j, none⟩ := by
      unfold Addr.add
      by_cases hk : j = 0 <;> simp [hk]
    rw [hadd]
    exact hga.cell (by rw [hrow.1.cellAt j (by omega)]; exact hu) (by simp)
  have hone : ∀ u ∈ bytes.map (Value.int .u8), u.oneCell' = true := fun u hu => by
    obtain ⟨x, _, rfl⟩ := List.mem_map.1 hu; simp [Value.oneCell']
  go_enter Try.func75, Try.ntmps75
  go_wp2_with (first
    | (at_builtin; (refine wpList_append_own _ rfl _ _ 48 rfl w.heap.size 5 i0 (.int .u8 0) 1 1 Try.underlying48 hi hz0 hz1 hz2 rfl (by decide) _ _ _ rfl hlit ⟨gb, 0, none⟩ bytes.length cp (bytes.map (Value.int .u8)) rfl (by simp) hnews hone (by unfold maxLen; omega) (by omega) (by simp) ?_; intro v' w4 hown4 hg4 hnil4; go_frame))
    | fail)
  go_ret
  exact ⟨v', rfl, by simpa using hown4, hga.from (GrowBut.of_rowZ (o := some w.heap.size) hg4) (fun x hx => .inr (by simp at hx; omega))⟩

end Go.Proofs.Ytcoedmiichppdaa


/-
  Package pact: of, note.
-/
namespace Go.Proofs.Ytcoedmiichppdaa
open Go Go.RowKit Go.Maps Go.Am
set_option linter.unusedVariables false
set_option linter.unusedSimpArgs false

theorem zeroPp (w : World) : (zeroValue 120).run Try.prog w = .ok (.pointer none) w := by kernel_rfl

theorem zeroEv (w : World) : (zeroValue 32).run Try.prog w = .ok (.slice none 0 0) w := by kernel_rfl

/-- The map of deals at a mark. -/
theorem PactsAt.deal {w : World} {ow : Nat → Int} {P MB b LB EB N : Nat} {g : Nat → Int} {L : List Int} {deals : Int → Option PactR} {events : Int → List Int} (h : PactsAt w ow P MB b LB EB N g L deals events) (m : Int) (hm : (Lit.int .u64 m).wf = true) :
    (deals m = none ∧ (Instr.lookup 113 (.map (some LB)) (.int .u64 m) false).run Try.prog w = .ok (.pointer none) w) ∨
    ∃ r X, deals m = some r ∧ PactAt w ow m X N r ∧ (Instr.lookup 113 (.map (some LB)) (.int .u64 m) false).run Try.prog w = .ok (.pointer (some ⟨X, 0, none⟩)) w := by
  obtain ⟨fl, ht, hs⟩ := h.tl
  have hl := ht.look (t := 113) (e := 120) lawU Try.underlying33 Try.underlying113 (zeroPp w) hm
  have := hs m
  cases hd : deals m with
  | none =>
    rw [hd] at this
    have h0 : fl m = none := this
    rw [h0] at hl
    exact .inl ⟨rfl, hl⟩
  | some r =>
    rw [hd] at this
    obtain ⟨X, h1, h2⟩ := this
    rw [h1] at hl
    exact .inr ⟨r, X, rfl, h2, hl⟩

set_option maxRecDepth 100000 in
set_option maxHeartbeats 2000000 in
theorem of_some {w : World} {ow : Nat → Int} {P MB b LB EB N : Nat} {g : Nat → Int} {L : List Int} {deals : Int → Option PactR} {events : Int → List Int} (h : PactsAt w ow P MB b LB EB N g L deals events) (m : Int) (hm : (Lit.int .u64 m).wf = true) (off : Bool) (r : PactR) (hd : deals m = some r) (ho : r.offered = off) :
    ∃ X, PactAt w ow m X N r ∧ (Instr.lookup 113 (.map (some LB)) (.int .u64 m) false).run Try.prog w = .ok (.pointer (some ⟨X, 0, none⟩)) w ∧ Calls Try.prog 73 #[.pointer (some ⟨P, 0, none⟩), .int .u64 m, .bool off] w fun e w' => e = .returned (.pointer (some ⟨X, 0, none⟩)) ∧ w' = w := by
  have hp1 := h.p1
  rcases h.deal m hm with ⟨h1, _⟩ | ⟨r', X, h1, h2, h3⟩
  · rw [hd] at h1; cases h1
  · rw [hd] at h1
    cases h1
    refine ⟨X, h2, h3, ?_⟩
    have hc3 := h2.c3
    rw [ho] at hc3
    cases off
    · go_enter Try.func73, Try.ntmps73
      go_wp2_with fail
      go_ret
      exact ⟨rfl, rfl⟩
    · go_enter Try.func73, Try.ntmps73
      go_wp2_with fail
      go_ret
      exact ⟨rfl, rfl⟩

set_option maxRecDepth 100000 in
set_option maxHeartbeats 2000000 in
theorem of_no {w : World} {ow : Nat → Int} {P MB b LB EB N : Nat} {g : Nat → Int} {L : List Int} {deals : Int → Option PactR} {events : Int → List Int} (h : PactsAt w ow P MB b LB EB N g L deals events) (m : Int) (hm : (Lit.int .u64 m).wf = true) (off : Bool) (hd : ∀ r, deals m = some r → r.offered ≠ off) :
    Calls Try.prog 73 #[.pointer (some ⟨P, 0, none⟩), .int .u64 m, .bool off] w fun e w' => e = .returned (.pointer none) ∧ w' = w := by
  have hp1 := h.p1
  rcases h.deal m hm with ⟨h1, hl⟩ | ⟨r', X, h1, h2, hl⟩
  · clear hd
    go_enter Try.func73, Try.ntmps73
    go_wp2_with fail
    go_ret
    exact ⟨rfl, rfl⟩
  · have hne := hd r' h1
    have hc3 := h2.c3
    cases off
    · have : r'.offered = true := by cases hh : r'.offered; exact absurd hh hne; rfl
      rw [this] at hc3
      clear hd hne this
      go_enter Try.func73, Try.ntmps73
      go_wp2_with fail
      go_ret
      exact ⟨rfl, rfl⟩
    · have : r'.offered = false := by cases hh : r'.offered; rfl; exact absurd hh hne
      rw [this] at hc3
      clear hd hne this
      go_enter Try.func73, Try.ntmps73
      go_wp2_with fail
      go_ret
      exact ⟨rfl, rfl⟩

end Go.Proofs.Ytcoedmiichppdaa
