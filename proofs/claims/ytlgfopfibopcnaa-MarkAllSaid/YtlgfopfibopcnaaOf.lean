/-
  mark.Of: how many marks it tells, whatever the order in which the map is ranged over: the walk.
-/
import Derived.Test.YtlgfopfibopcnaaMarks
namespace Go.Proofs.Ytlgfopfibopcnaa
open Go Go.RowKit Go.Maps Go.Am
set_option linter.unusedVariables false

theorem lawU : Keyed Try.prog 23 := int_keyed Try.underlying23

/-- What was met so far, of whom it is. -/
def CollU {H : Type} (D0 : DataW H) (left : Lit → Bool) (s : Int) (ss : List Int) : Prop := ss.Nodup ∧ ∀ x, x ∈ ss ↔ (Maps.has D0 (.int .u64 x) = true ∧ left (.int .u64 x) = false ∧ whose x = s)

section
variable {H : Type} {D0 : DataW H} {left : Lit → Bool} {ss : List Int} {s : Int}

theorem CollU.start (D0 : DataW H) (s : Int) : CollU D0 (Maps.has D0) s [] := ⟨List.nodup_nil, fun x => by cases Maps.has D0 (.int .u64 x) <;> simp⟩

theorem CollU.step (h : CollU D0 left s ss) {x : Int} {y : DataW H} (hw : whose x = s) (hlk : left (.int .u64 x) = true) (hat : ∀ zd, D0.atKey (.int .u64 x) zd = y) : CollU D0 (fun z => left z && !z.sameKey (.int .u64 x)) s (ss ++ [x]) := by
  have hhas : Maps.has D0 (.int .u64 x) = true := has_true_of_atKey hat
  have hnew : x ∉ ss := fun hx => by have := ((h.2 x).1 hx).2.1; rw [hlk] at this; cases this
  refine ⟨List.nodup_append.2 ⟨h.1, by simp, fun a ha b hb => by simp at hb; subst hb; exact fun e => hnew (e ▸ ha)⟩, fun y => ?_⟩
  by_cases hy : y = x
  · subst hy; simp [hhas, Lit.sameKey, hw]
  · simp [h.2 y, hy, Lit.sameKey]

theorem CollU.stays (h : CollU D0 left s ss) {x : Int} (hw : whose x ≠ s) : CollU D0 (fun z => left z && !z.sameKey (.int .u64 x)) s ss := by
  refine ⟨h.1, fun y => ?_⟩
  by_cases hy : y = x
  · subst hy
    constructor
    · intro hm; exact absurd ((h.2 y).1 hm).2.2 hw
    · rintro ⟨_, _, h3⟩; exact absurd h3 hw
  · simp [h.2 y, hy, Lit.sameKey]

variable {R : Value → Option (DataW H × List MemPlace)} {w : World} {b n : Nat}

theorem CollU.perm (h : CollU D0 left s ss) (hown : w.ownsMap Try.prog 23 R b n D0) (hl : ∀ kl, left kl = false) : ss.Perm ((intKeys D0).filter fun x => decide (whose x = s)) := by
  obtain ⟨es, hD, hpw, _⟩ := hown.entries lawU
  obtain ⟨es', hD', hko⟩ := hown.keysOf
  obtain rfl : es = es' := by rw [hD] at hD'; simpa using hD'
  subst hD
  have hk : ∀ p ∈ es, ∃ x, p.1 = .int .u64 x := fun p hp => by
    obtain ⟨v, hv⟩ := hko p hp
    obtain ⟨x, _, hx, _⟩ := Maps.keyOf_int_inv Try.underlying23 hv
    exact ⟨x, hx⟩
  refine (List.perm_ext_iff_of_nodup h.1 ?_).2 fun x => ?_
  · refine List.Pairwise.filter _ ?_
    show (es.map fun p => intOf p.1).Nodup
    refine List.pairwise_map.2 (hpw.imp_of_mem fun {p q} hp' hq' hne e => hne ?_)
    obtain ⟨a, ha⟩ := hk p hp'
    obtain ⟨b, hb⟩ := hk q hq'
    rw [ha, hb] at e ⊢
    exact congrArg _ e
  · rw [h.2 x, hl, List.mem_filter, decide_eq_true_iff, Maps.has_eq, List.any_eq_true]
    show _ ↔ x ∈ (es.map fun p => intOf p.1) ∧ _
    rw [List.mem_map]
    constructor
    · rintro ⟨⟨p, hp', hs⟩, _, hw⟩
      obtain ⟨a, ha⟩ := hk p hp'
      rw [ha] at hs
      exact ⟨⟨p, hp', by rw [ha]; simpa [Lit.sameKey, intOf] using hs⟩, hw⟩
    · rintro ⟨⟨p, hp', rfl⟩, hw⟩
      obtain ⟨a, ha⟩ := hk p hp'
      exact ⟨⟨p, hp', by rw [ha]; simp [Lit.sameKey, intOf]⟩, rfl, hw⟩
end

theorem infoU : (Try.prog.info? 23).map (fun i => (i.zero, i.size, i.bytes)) = some (some (.int .u64 0), 1, 8) := by kernel_rfl

set_option maxRecDepth 100000 in
set_option maxHeartbeats 2000000 in
/-- Whatever the order: so many marks as are of whom is asked for; no more than four of them. -/
theorem of_calls {H : Type} (mb mo b n : Nat) (s : Int) (D0 : DataW H) (w : World) (c0 : w.cell? ⟨mb, mo + 6, none⟩ = some (.map (some b))) (hown : w.ownsMap Try.prog 23 (plainElem Try.prog 4) b n D0) (hmax : Maps.size D0 ≤ 100000)
    (hfew : ((intKeys D0).filter fun x => decide (whose x = s)).length ≤ 4) :
    Calls Try.prog 24 #[.pointer (some ⟨mb, mo, none⟩), .int .i64 s] w fun e w' => ∃ v, e = .returned v ∧ ((((intKeys D0).filter fun x => decide (whose x = s)).length = 0 ∧ v = .slice none 0 0) ∨
      ∃ g cap, v = .slice (some ⟨g, 0, none⟩) ((intKeys D0).filter fun x => decide (whose x = s)).length cap ∧ 0 < ((intKeys D0).filter fun x => decide (whose x = s)).length ∧ ((intKeys D0).filter fun x => decide (whose x = s)).length ≤ cap ∧ w.heap.size ≤ g ∧ g < w'.heap.size) ∧ Below w.heap.size w w' := by
  generalize hF : ((intKeys D0).filter fun x => decide (whose x = s)).length = F at hfew ⊢
  obtain ⟨i0, hi, hz0, hz1, hz2⟩ := info_parts infoU
  have hbl := hown.lt
  go_enter Try.func24, Try.ntmps24
  go_wp2_with (first
    | (at_range; refine wpList_range_own _ rfl _ 175 rfl 23 4 lawU Try.underlying175 _ b n _ rfl hown ?_; intro w0 hrg0 hg0 hs0)
    | go_in)
  go_frame
  go_loopw [4] (fun v wr => ∃ (left : Lit → Bool) (cnt : Nat) (ss : List Int), wr.ranges Try.prog 23 (plainElem Try.prog 4) b w.heap.size n D0 left cnt ∧ ss.length + cnt ≤ Maps.size D0 ∧
      wr.ownsRow w.heap.size 23 1 v ss.length (ss.map (Value.int .u64)) ∧ (ss = [] → v = .slice none 0 0) ∧ CollU D0 left s ss ∧ Below w.heap.size w wr)
    (fun _ wr => wr.rangeLeft b w.heap.size)
  case atStart => exact ⟨_, _, [], hrg0, by simp, World.ownsRow_nil _ _ _ _, fun _ => rfl, CollU.start D0 s, (Below.refl _ _).grown hg0 (Nat.le_refl _) (fun j hj => by cases hj)⟩
  case round =>
    obtain ⟨left, cnt, ss, hrg, hcs, hrow, hne, hC, hnx⟩ := hrel
    go_wp2_with (first
      | (at_next; refine wpList_next_ranges _ rfl _ rfl 23 lawU (plainElem Try.prog 4) (Value.int .u64) (fun v : Value => v) (fun key kl hk => by obtain ⟨x, hx, _⟩ := Maps.keyOf_int_inv Try.underlying23 hk; exact ⟨x, hx⟩) (fun v y hv => ⟨v, rfl⟩) b w.heap.size n _ _ _ rfl hrg ?_ ?_)
      | go_in)
    · -- nothing is left
      intro hc0 hl0
      have hp := hC.perm hown hl0
      have hlen := hp.length_eq
      rw [hF] at hlen
      have hnd := hC.1
      rcases hrow.2 with ⟨rfl, hz⟩ | ⟨g, cap, cur, rfl, hbase, hb, h1, h2, h3, h4⟩
      · have hc := sort_nil wr
        clear hlen
        go_wp2_with (go_at_call 154; refine hc.mono ?_; rintro e w' ⟨rfl, hb'⟩)
        go_ret
        have hlen := hp.length_eq
        rw [hF] at hlen
        exact ⟨_, rfl, .inl ⟨by omega, rfl⟩, hnx.trans (hb'.mono hnx.size)⟩
      · have hpos : 0 < ss.length := by
          cases ss with
          | nil => have := hne rfl; cases this
          | cons p r => simp
        clear hne
        have hgl : g < wr.heap.size := (Array.getElem?_eq_some_iff.1 hb).1
        have h4' : ss.length ≤ 4 := by omega
        have hc := sort_few (n := ss.length) (by omega) h4' rfl hnd (w := wr) (g := g) (cap := cap) hgl h1 (fun j a hj => by
            have hj' : j < ss.length := (List.getElem?_eq_some_iff.1 hj).1
            have h5 : (cur.toList.take (ss.length * 1))[j]? = (ss.map (Value.int .u64))[j]? := by rw [h4]
            rw [List.getElem?_take_of_lt (by omega), List.getElem?_map, hj] at h5
            simp only [World.cell?, hb]
            simpa using h5) (fun i hi => ⟨by
            have : i < cur.size := by omega
            simp [World.cell?, hb, this], by simp [World.frozen?, hb]⟩)
        clear hlen
        go_wp2_with (go_at_call 154; refine hc.mono ?_; rintro e w' ⟨rfl, hgr⟩)
        go_ret
        have hlen := hp.length_eq
        rw [hF] at hlen
        exact ⟨_, rfl, .inr ⟨g, cap, by rw [← hlen]; rfl, by omega, by omega, hbase, Nat.lt_of_lt_of_le hgl hgr.size⟩, hnx.grown hgr hnx.size (fun j hj => by cases hj; exact hbase)⟩
    · -- an entry has come
      intro x c kl yd yp w2 cnt2 hkey hlk hv hat hrg2 hlt hg2 hs2 hen
      obtain ⟨x', ex, rfl, hwx⟩ := Maps.keyOf_int_inv Try.underlying23 hkey
      cases ex
      have hrow2 := hrow.kept hg2 (Or.inr (row_ne_iter hrow hrg).symm)
      clear hs2
      have hsd := fun W => sender_calls x hwx W
      generalize hwh : whose x = sx at hsd
      go_wp2_with (first
        | (go_at_call 28; refine (hsd _).mono ?_; rintro e w' ⟨rfl, hww⟩; rw [hww]; clear hww w')
        | (at_builtin; refine wpList_append_own _ rfl _ _ 29 rfl w.heap.size 23 i0 (.int .u64 0) 1 8 Try.underlying29 hi hz0 hz1 hz2 rfl (by decide) _ _ _ rfl (hrow2.alloc _) ⟨w2.heap.size, 0, none⟩ 1 1 [.int .u64 x] rfl rfl (cell_one_new _ _ _) (by simp [Value.oneCell']) (by unfold maxLen at *; omega) (by omega) (by have := hnx.size; have := hg2.size; simp; omega) ?_; intro v' w3 hown' hg3 hnil3; go_frame)
        | go_in)
      · have hsx : sx = s := by simpa using (by assumption : (sx == s) = true)
        have hrg3 := (hrg2.alloc (.cells #[.int .u64 x] 23)).kept hg3 (row_ne_low hrow2 hbl) (row_ne_iter hrow2 hrg2)
        refine ⟨⟨_, cnt2, ss ++ [x], hrg3, by simp; omega, by simpa using hown', fun h => by simp at h, hC.step (hwh.trans hsx) hlk hat, ?_⟩, by rw [hrg3.left_eq, hrg.left_eq]; exact hlt⟩
        exact ((hnx.grown hg2 hnx.size (fun j hj => by cases hj; exact Nat.le_refl _)).alloc (by have := hnx.size; have := hg2.size; omega) _).grown hg3 (by have := hnx.size; have := hg2.size; simp; omega) (fun j hj => (hrow2.lt j hj).1)
      · have hsx : sx ≠ s := by simpa using (by assumption : (sx == s) = false)
        exact ⟨⟨_, cnt2, ss, hrg2, by omega, hrow2, hne, hC.stays (fun h => hsx (hwh.symm.trans h)), hnx.grown hg2 hnx.size (fun j hj => by cases hj; exact Nat.le_refl _)⟩, by rw [hrg2.left_eq, hrg.left_eq]; exact hlt⟩

end Go.Proofs.Ytlgfopfibopcnaa
