/-
  mark.Of: the marks themselves, rising.
-/
import Derived.Test.YtlgfopfibopcnaaMarkC
import Derived.Test.YtlgfopfibopcnaaAm34
namespace Go.Proofs.Ytlgfopfibopcnaa
open Go Go.RowKit Go.Maps Go.Am
set_option linter.unusedVariables false

theorem sort_someC : (sortRunsC Try.prog 100000 154 1 && (sortRunsC Try.prog 100000 154 2 && (sortRunsC Try.prog 100000 154 3 && sortRunsC Try.prog 100000 154 4))) = true := by decide +kernel

theorem sort_fewC {n : Nat} (h1 : 1 ≤ n) (h4 : n ≤ 4) {zs : List Int} (hn : zs.length = n) (hnd : zs.Nodup) {w : World} {g cap : Nat} (hg : g < w.heap.size) (hcap : n ≤ cap)
    (hc : ∀ j a, zs[j]? = some a → w.cell? ⟨g, j, none⟩ = some (.int .u64 a)) (hall : ∀ i, i < cap → (w.cell? ⟨g, i, none⟩).isSome = true ∧ w.frozen? ⟨g, i, none⟩ = false) :
    Calls Try.prog 154 #[.slice (some ⟨g, 0, none⟩) n cap] w fun e w' => e = .returned (.tuple #[]) ∧ w.grownBy w' (some g) ∧ ∃ R : List Int, R.Perm zs ∧ R.Pairwise (· < ·) ∧ ∀ j a, R[j]? = some a → w'.cell? ⟨g, j, none⟩ = some (.int .u64 a) := by
  have h := sort_someC
  simp only [Bool.and_eq_true] at h
  have hs : sortRunsC Try.prog 100000 154 n = true := by
    have : n = 1 ∨ n = 2 ∨ n = 3 ∨ n = 4 := by omega
    rcases this with rfl | rfl | rfl | rfl
    · exact h.1
    · exact h.2.1
    · exact h.2.2.1
    · exact h.2.2.2
  exact sortRunsC_ok (by kernel_rfl) (by kernel_rfl) hs hn hnd hg hcap hc hall

/-- A row of numbers. -/
def RowU (w w' : World) (v : Value) (R : List Int) : Prop := (R = [] ∧ v = .slice none 0 0) ∨ ∃ g cap, v = .slice (some ⟨g, 0, none⟩) R.length cap ∧ 0 < R.length ∧ R.length ≤ cap ∧ cap ≤ maxLen ∧ w.heap.size ≤ g ∧ g < w'.heap.size ∧ ∀ j a, R[j]? = some a → w'.cell? ⟨g, j, none⟩ = some (.int .u64 a)

set_option maxRecDepth 100000 in
set_option maxHeartbeats 2000000 in
/-- Whatever the order: the marks that are of whom is asked for, rising; no more than four of them. -/
theorem ofS_raw {H : Type} (mb mo b n : Nat) (s : Int) (D0 : DataW H) (w : World) (c0 : w.cell? ⟨mb, mo + 6, none⟩ = some (.map (some b))) (hown : w.ownsMap Try.prog 23 (plainElem Try.prog 4) b n D0) (hmax : Maps.size D0 ≤ 100000)
    (hfew : ((intKeys D0).filter fun x => decide (whose x = s)).length ≤ 4) :
    Calls Try.prog 24 #[.pointer (some ⟨mb, mo, none⟩), .int .i64 s] w fun e w' => ∃ v R, e = .returned v ∧ R.Perm ((intKeys D0).filter fun x => decide (whose x = s)) ∧ R.Pairwise (· < ·) ∧ RowU w w' v R ∧ Below w.heap.size w w' := by
  obtain ⟨i0, hi, hz0, hz1, hz2⟩ := info_parts infoU
  have hbl := hown.lt
  go_enter Try.func24, Try.ntmps24
  go_wp2_with (first
    | (at_range; refine wpList_range_own _ rfl _ 175 rfl 23 4 lawU Try.underlying175 _ b n _ rfl hown ?_; intro w0 hrg0 hg0 hs0)
    | go_in)
  go_frame
  go_loopw [4] (fun v wr => ∃ (left : Lit → Bool) (cnt : Nat) (ss : List Int), wr.ranges Try.prog 23 (plainElem Try.prog 4) b w.heap.size n D0 left cnt ∧ ss.length + cnt ≤ Maps.size D0 ∧
      wr.ownsRow w.heap.size 23 1 v ss.length (ss.map (Value.int .u64)) ∧ (ss = [] → v = .slice none 0 0) ∧ CollU D0 left s ss ∧ Below w.heap.size w wr)
    (fun _ wr => wr.rangeLeft b w.heap.size)
  case atStart => exact ⟨_, _, [], hrg0, by simp, World.ownsRow_nil _ _ _ _, fun _ => rfl, CollU.start D0 s, (Below.refl _ _).grown hg0 (Nat.le_refl _) (fun j hj => by cases hj)⟩
  case round =>
    obtain ⟨left, cnt, ss, hrg, hcs, hrow, hne, hC, hnx⟩ := hrel
    go_wp2_with (first
      | (at_next; refine wpList_next_ranges _ rfl _ rfl 23 lawU (plainElem Try.prog 4) (Value.int .u64) (fun v : Value => v) (fun key kl hk => by obtain ⟨x, hx, _⟩ := Maps.keyOf_int_inv Try.underlying23 hk; exact ⟨x, hx⟩) (fun v y hv => ⟨v, rfl⟩) b w.heap.size n _ _ _ rfl hrg ?_ ?_)
      | go_in)
    · -- nothing is left
      intro hc0 hl0
      have hp := hC.perm hown hl0
      have hlen := hp.length_eq
      have hnd := hC.1
      rcases hrow.2 with ⟨rfl, hz⟩ | ⟨g, cap, cur, rfl, hbase, hb, h1, h2, h3, h4⟩
      · have hc := sort_nil wr
        clear hlen
        go_wp2_with (go_at_call 154; refine hc.mono ?_; rintro e w' ⟨rfl, hb'⟩)
        go_ret
        have hss : ss = [] := List.eq_nil_of_length_eq_zero hz
        subst hss
        exact ⟨_, [], rfl, hp, List.Pairwise.nil, .inl ⟨rfl, rfl⟩, hnx.trans (hb'.mono hnx.size)⟩
      · have hpos : 0 < ss.length := by
          cases ss with
          | nil => have := hne rfl; cases this
          | cons p r => simp
        clear hne
        have hgl : g < wr.heap.size := (Array.getElem?_eq_some_iff.1 hb).1
        have h4' : ss.length ≤ 4 := by omega
        have hc := sort_fewC (n := ss.length) (by omega) h4' rfl hnd (w := wr) (g := g) (cap := cap) hgl h1 (fun j a hj => by
            have hj' : j < ss.length := (List.getElem?_eq_some_iff.1 hj).1
            have h5 : (cur.toList.take (ss.length * 1))[j]? = (ss.map (Value.int .u64))[j]? := by rw [h4]
            rw [List.getElem?_take_of_lt (by omega), List.getElem?_map, hj] at h5
            simp only [World.cell?, hb]
            simpa using h5) (fun i hi => ⟨by
            have : i < cur.size := by omega
            simp [World.cell?, hb, this], by simp [World.frozen?, hb]⟩)
        clear hlen
        go_wp2_with (go_at_call 154; refine hc.mono ?_; rintro e w' ⟨rfl, hgr, R, hRp, hRr, hRc⟩)
        go_ret
        exact ⟨_, R, rfl, hRp.trans hp, hRr, .inr ⟨g, cap, by rw [hRp.length_eq]; rfl, by rw [hRp.length_eq]; exact hpos, by rw [hRp.length_eq]; exact h1, h2, hbase, Nat.lt_of_lt_of_le hgl hgr.size, hRc⟩, hnx.grown hgr hnx.size (fun j hj => by cases hj; exact hbase)⟩
    · -- an entry has come
      intro x c kl yd yp w2 cnt2 hkey hlk hv hat hrg2 hlt hg2 hs2 hen
      obtain ⟨x', ex, rfl, hwx⟩ := Maps.keyOf_int_inv Try.underlying23 hkey
      cases ex
      have hrow2 := hrow.kept hg2 (Or.inr (row_ne_iter hrow hrg).symm)
      clear hs2
      have hsd := fun W => sender_calls x hwx W
      generalize hwh : whose x = sx at hsd
      go_wp2_with (first
        | (go_at_call 28; refine (hsd _).mono ?_; rintro e w' ⟨rfl, hww⟩; rw [hww]; clear hww w')
        | (at_builtin; refine wpList_append_own _ rfl _ _ 29 rfl w.heap.size 23 i0 (.int .u64 0) 1 8 Try.underlying29 hi hz0 hz1 hz2 rfl (by decide) _ _ _ rfl (hrow2.alloc _) ⟨w2.heap.size, 0, none⟩ 1 1 [.int .u64 x] rfl rfl (cell_one_new _ _ _) (by simp [Value.oneCell']) (by unfold maxLen at *; omega) (by omega) (by have := hnx.size; have := hg2.size; simp; omega) ?_; intro v' w3 hown' hg3 hnil3; go_frame)
        | go_in)
      · have hsx : sx = s := by simpa using (by assumption : (sx == s) = true)
        have hrg3 := (hrg2.alloc (.cells #[.int .u64 x] 23)).kept hg3 (row_ne_low hrow2 hbl) (row_ne_iter hrow2 hrg2)
        refine ⟨⟨_, cnt2, ss ++ [x], hrg3, by simp; omega, by simpa using hown', fun h => by simp at h, hC.step (hwh.trans hsx) hlk hat, ?_⟩, by rw [hrg3.left_eq, hrg.left_eq]; exact hlt⟩
        exact ((hnx.grown hg2 hnx.size (fun j hj => by cases hj; exact Nat.le_refl _)).alloc (by have := hnx.size; have := hg2.size; omega) _).grown hg3 (by have := hnx.size; have := hg2.size; simp; omega) (fun j hj => (hrow2.lt j hj).1)
      · have hsx : sx ≠ s := by simpa using (by assumption : (sx == s) = false)
        exact ⟨⟨_, cnt2, ss, hrg2, by omega, hrow2, hne, hC.stays (fun h => hsx (hwh.symm.trans h)), hnx.grown hg2 hnx.size (fun j hj => by cases hj; exact Nat.le_refl _)⟩, by rw [hrg2.left_eq, hrg.left_eq]; exact hlt⟩

theorem Marked.permWho {H : Type} {D : DataW H} {L : List Int} (h : Marked D L) {w : World} {b n : Nat} {R : Value → Option (DataW H × List MemPlace)} (hown : w.ownsMap Try.prog 23 R b n D) (s : Int) : ((intKeys D).filter fun x => decide (whose x = s)).Perm (ofWho L s) := by
  have hC : CollU D (fun _ => false) s (ofWho L s) := ⟨h.nodup.filter _, fun x => by simp [ofWho, List.mem_filter, h.has]⟩
  exact (hC.perm hown (fun _ => rfl)).symm

theorem ofS_calls (B b n : Nat) (g : Nat → Int) (L : List Int) (s : Int) (w : World) (h : MarksAt w B b n g L) (hn : n ≤ 100000) :
    Calls Try.prog 24 #[.pointer (some ⟨B, 0, none⟩), .int .i64 s] w fun e w' => ∃ v R, e = .returned v ∧ R.Perm (ofWho L s) ∧ R.Pairwise (· < ·) ∧ RowU w w' v R ∧ GrowBut w w' [] := by
  obtain ⟨D, hown, hD⟩ := h.own
  have hc := hD.count hown s
  refine (ofS_raw B 0 b n s D w h.ptr hown (by have := hown.size_le; omega) (by rw [hc]; exact h.few s)).mono ?_
  rintro e w' ⟨v, R, he, hp, hr, hrow, hb⟩
  exact ⟨v, R, he, hp.trans (hD.permWho hown s), hr, hrow, .of_below hb⟩

end Go.Proofs.Ytlgfopfibopcnaa
