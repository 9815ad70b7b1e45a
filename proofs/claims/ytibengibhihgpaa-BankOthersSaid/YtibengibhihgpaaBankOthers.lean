/-
  BankOthers holds: whatever the registers of two and whatever comes between.
-/
import Derived.Test.YtibengibhihgpaaBankB
import Derived.BigQuiet
import Derived.Deep.Light
import Derived.Test.YtibengibhihgpaaOpens
namespace Go.Proofs.Ytibengibhihgpaa
open Go Go.RowKit Go.Maps Go.Am
set_option linter.unusedVariables false

/-- Registers in memory. -/
structure BoxAt (w : World) (S : Nat) (x0 x1 x2 x3 x4 x5 x6 x7 : Int) : Prop where
  c0 : w.cell? ⟨S, 0, none⟩ = some (.int .u64 x0)
  c1 : w.cell? ⟨S, 1, none⟩ = some (.int .u64 x1)
  c2 : w.cell? ⟨S, 2, none⟩ = some (.int .u64 x2)
  c3 : w.cell? ⟨S, 3, none⟩ = some (.int .u64 x3)
  c4 : w.cell? ⟨S, 4, none⟩ = some (.int .u64 x4)
  c5 : w.cell? ⟨S, 5, none⟩ = some (.int .u64 x5)
  c6 : w.cell? ⟨S, 6, none⟩ = some (.int .u64 x6)
  c7 : w.cell? ⟨S, 7, none⟩ = some (.int .u64 x7)

theorem BoxAt.kept {w w' : World} {S : Nat} {x0 x1 x2 x3 x4 x5 x6 x7 : Int} {row : Option Nat} (h : BoxAt w S x0 x1 x2 x3 x4 x5 x6 x7) (hg : w.grownBy w' row) (hne : some S ≠ row) : BoxAt w' S x0 x1 x2 x3 x4 x5 x6 x7 :=
  ⟨hg.cell h.c0 hne, hg.cell h.c1 hne, hg.cell h.c2 hne, hg.cell h.c3 hne, hg.cell h.c4 hne, hg.cell h.c5 hne, hg.cell h.c6 hne, hg.cell h.c7 hne⟩

theorem key1 (k : Int) : WideAt.IsKeyLit (kI k) := by trivial

theorem boxAt_new (w : World) (t : TypeId) (x0 x1 x2 x3 x4 x5 x6 x7 : Int) : BoxAt (w.alloc (.cells #[.int .u64 x0, .int .u64 x1, .int .u64 x2, .int .u64 x3, .int .u64 x4, .int .u64 x5, .int .u64 x6, .int .u64 x7] t)) w.heap.size x0 x1 x2 x3 x4 x5 x6 x7 := by
  constructor <;> go_simp

theorem row_cells {w : World} {base k : Nat} {v : Value} {L : List Int} (hrow : w.ownsRow base 3 1 v k (L.map encZ)) (hk : L.length = k) : (v = .slice none 0 0 ∧ k = 0) ∨ ∃ g cap, v = .slice (some ⟨g, 0, none⟩) k cap ∧ base ≤ g ∧ g < w.heap.size ∧ ∀ i, i < k → w.cell? ⟨g, i, none⟩ = some (.int .i64 (L.getD i 0)) := by
  rcases hrow.2 with ⟨rfl, hz⟩ | ⟨g, cap, cur, rfl, hbase, hb, h1, h2, h3, h4⟩
  · exact .inl ⟨rfl, hz⟩
  · refine .inr ⟨g, cap, rfl, hbase, (Array.getElem?_eq_some_iff.1 hb).1, fun i hi => ?_⟩
    have h5 : (cur.toList.take (k * 1))[i]? = (L.map encZ)[i]? := by rw [h4]
    rw [List.getElem?_take_of_lt (by omega), List.getElem?_map] at h5
    have h6 : L[i]? = some (L.getD i 0) := by rw [List.getD_eq_getElem?_getD, List.getElem?_eq_getElem (by omega)]; rfl
    rw [h6] at h5
    simp only [World.cell?, hb]
    simpa [encZ] using h5

theorem strict_sort {H : Type} {D : DataW H} {ss : List Int} (hp : ss.Perm (intKeys D)) (hnd : (intKeys D).Nodup) (i : Nat) (hi : i + 1 < ss.length) :
    (ss.mergeSort (fun x y => decide (x ≤ y))).getD i 0 < (ss.mergeSort (fun x y => decide (x ≤ y))).getD (i + 1) 0 := by
  have hs : (ss.mergeSort (fun x y => decide (x ≤ y))).Pairwise (fun x y => decide (x ≤ y) = true) := List.pairwise_mergeSort (fun a b c h1 h2 => by simp at *; omega) (fun a b => by simp; omega) ss
  have hn : (ss.mergeSort (fun x y => decide (x ≤ y))).Nodup := ((List.mergeSort_perm ss _).nodup_iff).2 (hp.nodup_iff.2 hnd)
  have hl : (ss.mergeSort (fun x y => decide (x ≤ y))).length = ss.length := List.length_mergeSort ss
  generalize ss.mergeSort (fun x y => decide (x ≤ y)) = L at hs hn hl
  rw [List.getD_eq_getElem?_getD, List.getD_eq_getElem?_getD, List.getElem?_eq_getElem (by omega), List.getElem?_eq_getElem (by omega)]
  have h1 := List.pairwise_iff_getElem.1 hs i (i + 1) (by omega) (by omega) (by omega)
  have h2 := List.pairwise_iff_getElem.1 hn i (i + 1) (by omega) (by omega) (by omega)
  simp at h1 ⊢
  omega

theorem intKeys_nodup {H : Type} {w : World} {b n : Nat} {D : DataW H} {R : Value → Option (DataW H × List MemPlace)} (hown : w.ownsMap Try.prog 3 R b n D) : (intKeys D).Nodup := by
  obtain ⟨es, hD, hpw, _⟩ := hown.entries law3B
  obtain ⟨es', hD', hko⟩ := hown.keysOf
  obtain rfl : es = es' := by rw [hD] at hD'; simpa using hD'
  subst hD
  have hk : ∀ p ∈ es, ∃ x, p.1 = .int .i64 x := fun p hp => by
    obtain ⟨v, hv⟩ := hko p hp
    obtain ⟨x, _, hx, _⟩ := Maps.keyOf_int_inv Try.underlying3 hv
    exact ⟨x, hx⟩
  change List.Nodup (List.map _ es)
  refine List.pairwise_map.2 (hpw.imp_of_mem fun {p q} hp' hq' hne e => hne ?_)
  obtain ⟨a, ha⟩ := hk p hp'
  obtain ⟨b, hb⟩ := hk q hq'
  rw [ha, hb] at e ⊢
  exact congrArg _ e

theorem eqRegs (x0 x1 x2 x3 x4 x5 x6 x7 : Int) (w : World) : (Op.equalIn 10000 38 (regs x0 x1 x2 x3 x4 x5 x6 x7) (regs x0 x1 x2 x3 x4 x5 x6 x7)).run Try.prog w = .ok true w :=
  equalIn_ints 9998 _ Try.underlying38 Try.underlying28 (by kernel_rfl) rfl (fun u hu => by simp at hu; rcases hu with rfl | rfl | rfl | rfl | rfl | rfl | rfl | rfl <;> exact ⟨_, _, rfl⟩) w

set_option maxRecDepth 100000 in
set_option maxHeartbeats 4000000 in
theorem bankOthers_walk (x0 x1 x2 x3 x4 x5 x6 x7 y0 y1 y2 y3 y4 y5 y6 y7 : Int) (zs : List Int) (p : Option Addr) (cap : Nat) (w : World) (hcell : ∀ i, i < zs.length → ∃ a, p = some a ∧ a.block < w.heap.size ∧ w.cell? (a.add i) = some (.int .i64 (zs.getD i 0))) (hwf : ∀ n ∈ zs, (Lit.int .i64 n).wf = true) :
    Calls Try.prog 5 #[regs x0 x1 x2 x3 x4 x5 x6 x7, regs y0 y1 y2 y3 y4 y5 y6 y7, .slice p zs.length cap] w fun e w' => e = .returned (.bool true) ∧ w.grownBy w' none := by
  have hx := (boxAt_new w 38 x0 x1 x2 x3 x4 x5 x6 x7).kept (World.grownBy_alloc _ (.cells #[.int .u64 y0, .int .u64 y1, .int .u64 y2, .int .u64 y3, .int .u64 y4, .int .u64 y5, .int .u64 y6, .int .u64 y7] 38) none) (by simp)
  have hy := (boxAt_new (w.alloc (.cells #[.int .u64 x0, .int .u64 x1, .int .u64 x2, .int .u64 x3, .int .u64 x4, .int .u64 x5, .int .u64 x6, .int .u64 x7] 38)) 38 y0 y1 y2 y3 y4 y5 y6 y7)
  by_cases hlen : 20 < zs.length
  · have hlen' : (20 : Int) < (zs.length : Int) := by omega
    go_enter Try.func5, Try.ntmps5
    go_wp2_with (first
      | (go_at_call 23; refine (begunBank_true _).mono ?_; rintro e w1 ⟨rfl, hb1⟩; have hg1 : w.grownBy w1 none := ((World.grownBy_alloc _ _ none).trans (World.grownBy_alloc _ _ none)).trans (below_grownB hb1))
      | go_in)
    go_ret
    exact ⟨rfl, hg1⟩
  have hlen' : ¬ (20 : Int) < (zs.length : Int) := by omega
  go_enter Try.func5, Try.ntmps5
  go_wp2_with (first
    | (go_at_call 23; refine (begunBank_true _).mono ?_; rintro e w1 ⟨rfl, hb1⟩; replace hx := hx.kept (below_grownB hb1) (by simp); replace hy := hy.kept (below_grownB hb1) (by simp); have hg1 : w.grownBy w1 none := ((World.grownBy_alloc _ _ none).trans (World.grownBy_alloc _ _ none)).trans (below_grownB hb1))
    | (go_at_call 24; refine (newBank_calls _).mono ?_; rintro e w2 ⟨B, b, rfl, hB, hB1, hb2, hg2⟩; replace hx := hx.kept hg2 (by simp); replace hy := hy.kept hg2 (by simp); have hxx := hx; obtain ⟨c0, c1, c2, c3, c4, c5, c6, c7⟩ := hxx)
    | (go_at_call 25; refine (save_calls B b 0 1 _ _ _ hB (by decide) ⟨_, _, _, _, _, _, _, _, rfl⟩ (by decide)).mono ?_; rintro e w3 ⟨rfl, hB3, hg3⟩)
    | go_in)
  have hbw : w.heap.size ≠ b := by have := hg1.size; have := hb1.size; simp at this; omega
  have hbw' : w.heap.size + 1 ≠ b := by have := hb1.size; simp at this; omega
  have hg13 : w1.grownBy w3 none := ⟨by rw [hg3.os, hg2.os], by rw [hg3.tape, hg2.tape], by rw [hg3.output, hg2.output], Nat.le_trans hg2.size hg3.size, fun k hk _ => by rw [hg3.block k (Nat.lt_of_lt_of_le hk hg2.size) (by simp; omega), hg2.block k hk (by simp)]⟩
  go_loopw [8] (fun v8 wr => ∃ (i n : Nat) (D : DataW Value), v8 = .int .i64 i ∧ i ≤ zs.length ∧ n ≤ i + 1 ∧ BankAt wr B b n D ∧ Maps.has D (kI 1) = true ∧ (∀ z, D.atKey (kI 1) z = .held (regs x0 x1 x2 x3 x4 x5 x6 x7)) ∧ BoxAt wr w.heap.size x0 x1 x2 x3 x4 x5 x6 x7 ∧
      BoxAt wr (w.heap.size + 1) y0 y1 y2 y3 y4 y5 y6 y7 ∧ w1.grownBy wr none) (fun v8 _ => zs.length - (match v8 with | .int _ k => k.toNat | _ => 0))
  case atStart => exact ⟨0, 1, _, rfl, by omega, by omega, hB3, has_put_same isMap_empty (key1 1) _, fun z => atKey_put_same isMap_empty (key1 1) _ z, hx.kept hg3 (by simpa using hbw), by simpa using hy.kept hg3 (by simpa using hbw'), hg13⟩
  case round =>
    obtain ⟨i, n, D, rfl, hi, hn, hBr, hhas, hat, hxr, hyr, hgr⟩ := hrel
    by_cases hlt : i < zs.length
    · obtain ⟨a, rfl, hab, hcw⟩ := hcell i hlt
      have hcr : wr.cell? (a.add i) = some (.int .i64 (zs.getD i 0)) := (hg1.trans hgr).cell hcw (by simp)
      have hwz : (Lit.int .i64 (zs.getD i 0)).wf = true := hwf _ (by rw [List.getD_eq_getElem?_getD, List.getElem?_eq_getElem hlt]; simp)
      generalize hz : zs.getD i 0 = z at hcr hwz
      have hlt' : (i : Int) < (zs.length : Int) := by omega
      by_cases h1 : z = 1
      · subst h1
        go_wp2_with go_in
        exact ⟨⟨i + 1, n, D, by simp, by omega, by omega, hBr, hhas, hat, hxr, hyr, hgr⟩, by simp; omega⟩
      · have h1' : ¬ (z == 1) = true := by simpa using h1
        have hne1 : kI 1 ≠ kI z := fun e => h1 (by cases e; rfl)
        obtain ⟨c0, c1, c2, c3, c4, c5, c6, c7⟩ := id hyr
        have hdr : wr.grownBy wr.drew none := ⟨rfl, rfl, rfl, Nat.le_refl _, fun _ _ _ => rfl⟩
        have hBd := hBr.kept hdr (by simp) (by simp)
        go_wp2_with go_in
        go_still_tail 6, (by kernel_rfl)
        change wpList _ _ _ _ _ wr.drew
        go_wp2_with (first
          | (go_at_call 25; refine (save_calls B b n z _ D _ hBd hwz ⟨_, _, _, _, _, _, _, _, rfl⟩ (by unfold maxLen; omega)).mono ?_; rintro e w4 ⟨rfl, hB4, hg4⟩)
          | go_in)
        exact ⟨⟨i + 1, n + 1, _, by simp, by omega, by omega, hB4, by rw [has_put_other hne1]; exact hhas, fun z => by rw [atKey_put_other hne1]; exact hat z, (hxr.kept hdr (by simp)).kept hg4 (by simpa using hbw), (hyr.kept hdr (by simp)).kept hg4 (by simpa using hbw'), ⟨by rw [hg4.os]; exact hgr.os, by rw [hg4.tape]; exact hgr.tape, by rw [hg4.output]; exact hgr.output, Nat.le_trans hgr.size hg4.size, fun k hk hkr => by rw [hg4.block k (Nat.lt_of_lt_of_le hk hgr.size) (by simp; omega)]; exact hgr.block k hk hkr⟩⟩, by simp; omega⟩
    · have hil : i = zs.length := by omega
      subst hil
      clear hlt
      go_wp2_with (first
        | (go_at_call 26; refine (load_calls B b n 1 D _ hBr (by decide)).mono ?_; rintro e w5 ⟨v, rfl, _, hv, hg5⟩; have hvv : v = regs x0 x1 x2 x3 x4 x5 x6 x7 := (by have := hat (.held zeroRegs); rw [hv] at this; simpa using this); subst hvv; have hlt5 : w.heap.size + 1 < w5.heap.size := (by have := hb1.size; have := hgr.size; have := hg5.size; simp at *; omega); obtain ⟨d0, d1, d2, d3, d4, d5, d6, d7⟩ := hyr.kept hg5 (by simp); have hB6 := (hBr.kept hg5 (by simp) (by simp)).kept (World.grownBy_alloc w5 (.cells #[.int .u64 x0, .int .u64 x1, .int .u64 x2, .int .u64 x3, .int .u64 x4, .int .u64 x5, .int .u64 x6, .int .u64 x7] 38) none) (by simp) (by simp))
        | (go_at_call 25; refine (save_calls B b n 1 _ D _ hB6 (by decide) ⟨_, _, _, _, _, _, _, _, rfl⟩ (by unfold maxLen; omega)).mono ?_; rintro e w7 ⟨rfl, hB7, hg7⟩)
        | (go_at_call 26; refine (load_calls B b _ 1 _ _ hB7 (by decide)).mono ?_; rintro e w8 ⟨v, rfl, _, hv8, hg8⟩; have hvv8 : v = regs y0 y1 y2 y3 y4 y5 y6 y7 := (by rw [atKey_put_same hBr.own.isMap (key1 1)] at hv8; simpa using hv8.symm); subst hvv8; have hB9 := (hB7.kept hg8 (by simp) (by simp)).kept (World.grownBy_alloc w8 (.cells #[.int .u64 y0, .int .u64 y1, .int .u64 y2, .int .u64 y3, .int .u64 y4, .int .u64 y5, .int .u64 y6, .int .u64 y7] 38) none) (by simp) (by simp))
        | (go_at_call 27; refine (who_calls B b _ _ _ hB9 (by omega)).mono ?_; rintro e w10 ⟨v, ss, rfl, hp, hrow, hnil, hg10⟩)
        | go_in)
      have hd10 := intKeys_nodup hB9.own
      have hB10 := hB9.kept hg10 (by simp) (by simp)
      have hlb := hBr.own.lt
      have hb5 := hg5.size
      have h78 := hg8.size
      have h57 := hg7.size
      have hX10 := (((((boxAt_new w5 38 x0 x1 x2 x3 x4 x5 x6 x7).kept hg7 (by simp; omega)).kept hg8 (by simp)).kept (World.grownBy_alloc w8 _ none) (by simp)).kept hg10 (by simp))
      have hY10 := (boxAt_new w8 38 y0 y1 y2 y3 y4 y5 y6 y7).kept hg10 (by simp)
      have hx10 := (((((hxr.kept hg5 (by simp)).kept (World.grownBy_alloc w5 _ none) (by simp)).kept hg7 (by simpa using hbw)).kept hg8 (by simp)).kept (World.grownBy_alloc w8 _ none) (by simp)).kept hg10 (by simp)
      have hy10 := (((((hyr.kept hg5 (by simp)).kept (World.grownBy_alloc w5 _ none) (by simp)).kept hg7 (by simpa using hbw')).kept hg8 (by simp)).kept (World.grownBy_alloc w8 _ none) (by simp)).kept hg10 (by simp)
      have hstr := strict_sort hp hd10
      have hcq := row_cells hrow (List.length_mergeSort ss)
      have hk0 : ∃ q cq, v = .slice q ss.length cq := by
        rcases hcq with ⟨rfl, h0⟩ | ⟨g, cq, rfl, _⟩
        · exact ⟨none, 0, by rw [h0]⟩
        · exact ⟨_, _, rfl⟩
      obtain ⟨q, cq, rfl⟩ := hk0
      generalize ss.mergeSort (fun x y => decide (x ≤ y)) = L at hcq hstr
      have hss : ss.length ≤ 1000 := by
        have h1 := hp.length_eq
        have h2 := hB9.own.size_le
        obtain ⟨es, hD, _⟩ := hB9.own.entries law3B
        rw [hD] at h1 h2
        simp [intKeys, Maps.size] at h1 h2
        omega
      have hlw : w.heap.size ≤ b := by have := hg1.size; omega
      have hgall : w.grownBy w10 none := ((((((hg1.trans hgr).trans hg5).trans (World.grownBy_alloc w5 _ none)).andThen hg7 (fun j hj => by cases hj; exact .inl hlw)).trans hg8).trans (World.grownBy_alloc w8 _ none)).trans hg10
      go_loopw [14] (fun v14 wr => ∃ k : Nat, v14 = .int .i64 ((k : Int) + 1) ∧ k ≤ ss.length ∧ w10.grownBy wr none) (fun v14 _ => ss.length + 1 - (match v14 with | .int _ k => k.toNat | _ => 0))
      case atStart => exact ⟨0, rfl, by omega, World.grownBy.refl _ _⟩
      case round =>
        obtain ⟨k, rfl, hk, hgk⟩ := hrel
        by_cases hlt : k + 1 < ss.length
        · have hs1 := hstr k hlt
          obtain ⟨g, rfl, hg9, hcg⟩ : ∃ g, q = some ⟨g, 0, none⟩ ∧ g < w10.heap.size ∧ ∀ i, i < ss.length → w10.cell? ⟨g, i, none⟩ = some (.int .i64 (L.getD i 0)) := by
            rcases hcq with ⟨_, h0⟩ | ⟨g, cap, e, _, h2, h3⟩
            · omega
            · cases e; exact ⟨g, rfl, h2, h3⟩
          have hc1 := hgk.cell (hcg (k + 1) hlt) (by simp)
          have hc0 := hgk.cell (hcg k (by omega)) (by simp)
          generalize L.getD k 0 = l0 at hs1 hc0
          generalize L.getD (k + 1) 0 = l1 at hs1 hc1
          have hlt' : (k : Int) + 1 < (ss.length : Int) := by omega
          have hnle : ¬ l1 ≤ l0 := by omega
          have h0k : (0 : Int) ≤ (k : Int) + 1 := by omega
          have h1k : (k : Int) + 1 ≤ 1000 := by omega
          go_wp2_with go_in
          go_quiet (fail)
          go_wp2_with go_in
          exact ⟨⟨k + 1, by simp, by omega, hgk.trans ⟨rfl, rfl, rfl, Nat.le_refl _, fun _ _ _ => rfl⟩⟩, by simp; omega⟩
        · obtain ⟨e0, e1, e2, e3, e4, e5, e6, e7⟩ := hX10.kept hgk (by simp)
          obtain ⟨f0, f1, f2, f3, f4, f5, f6, f7⟩ := hY10.kept hgk (by simp)
          obtain ⟨g0, g1, g2, g3, g4, g5, g6, g7⟩ := hx10.kept hgk (by simp)
          obtain ⟨i0, i1, i2, i3, i4, i5, i6, i7⟩ := hy10.kept hgk (by simp)
          have hB11 := hB10.kept hgk (by simp) (by simp)
          have hge : ¬ (k : Int) + 1 < (ss.length : Int) := by omega
          have hh1 : Maps.has (D.put (kI 1) (.held (regs y0 y1 y2 y3 y4 y5 y6 y7))) (kI 1) = true := has_put_same hBr.own.isMap (key1 1) _
          have hdr1 := drop_calls B b _ 1 _ wr hB11 (by decide)
          rw [hh1] at hdr1
          have hqx := eqRegs x0 x1 x2 x3 x4 x5 x6 x7
          have hqy := eqRegs y0 y1 y2 y3 y4 y5 y6 y7
          go_wp2_with (first
            | (go_at_call 28; refine hdr1.mono ?_; rintro e w12 ⟨rfl, hB12, hg12⟩)
            | (go_at_call 28; refine (drop_calls B b _ 1 _ _ hB12 (by decide)).mono ?_; rintro e w13 ⟨rfl, hB13, hg13'⟩; rw [has_del_same])
            | go_in)
          go_ret
          exact ⟨rfl, ((hgall.trans hgk).andThen hg12 (fun j hj => by cases hj; exact .inl hlw)).andThen hg13' (fun j hj => by cases hj; exact .inl hlw)⟩

open Go.ChangeShapes Go.WideShapes Go.ChangeAt

namespace bankOthers
set_option maxRecDepth 100000 in
theorem lifted (os : Os) (started : os.Started) (H : Type) (enc : TypeId × Value → H) :
    ReturnsInHanded {} Try.checked os 5 .any (Rows.bankOthersSpec.pre6 enc Try.prog Try.f5 Rows.bankOthersRow.domain false) (Rows.bankOthersSpec.post enc Try.prog Try.f5 false true false false) := by
  refine returnsInHanded_of_change (C := Try.checked) ownKnobs started (by kernel_rfl) Try.func5
    (ChangeSpec.witness6 (enc := enc) (C := Try.checked) false ⟨#[], #[.agg #[.int .u64 0, .int .u64 0, .int .u64 0, .int .u64 0, .int .u64 0, .int .u64 0, .int .u64 0, .int .u64 0], .agg #[.int .u64 0, .int .u64 0, .int .u64 0, .int .u64 0, .int .u64 0, .int .u64 0, .int .u64 0, .int .u64 0], .slice none 0 0], []⟩ 8 (by kernel_rfl) (by kernel_rfl) (by kernel_rfl) (by kernel_rfl)) ?_
  intro W base args ds gs before hval0 hW hcnd _
  have hval : ∀ (j : Nat) t v, Try.f5.params[j]? = some t → args[j]? = some v → Value.okWide Try.prog W .any base t v := hval0
  have hW' := hW
  obtain ⟨p, q, hA0, hV, rfl, hfz, hnd⟩ := hW
  have hA : DataW.TrodAll enc Try.prog W 0 (fun _ => true) true Try.f5.params.toList args.toList ds p := hA0
  rw [Try.params5] at hA hval
  obtain ⟨v0, vs0, d0, ds0, p0, q0, hargs, rfl, rfl, h0, r0⟩ := trodAll_cons hA
  obtain ⟨v1, vs1, d1, ds1, p1, q1, rfl, rfl, rfl, h1, r1⟩ := trodAll_cons r0
  obtain ⟨v2, vs2, d2, ds2, p2, q2, rfl, rfl, rfl, h2, r2⟩ := trodAll_cons r1
  obtain ⟨rfl, rfl, rfl⟩ := trodAll_nil r2
  obtain rfl : args = #[v0, v1, v2] := by cases args; simp_all
  obtain ⟨rfl, rfl⟩ := trodVars_none hV
  have k0 : ∀ (W' : World), Below W.heap.size W W' → DataW.Trod enc Try.prog W' 0 (fun b => decide (b < W.heap.size)) true 38 v0 d0 p0 := fun W' bel => Below.trod laidOut (by kernel_rfl) (of_decide_eq_true (by kernel_rfl)) h0 bel (fun x hx => by obtain ⟨fuel, hf⟩ := h0; exact DataW.trod_lt _ _ _ _ hf x hx)
  have k1 : ∀ (W' : World), Below W.heap.size W W' → DataW.Trod enc Try.prog W' 0 (fun b => decide (b < W.heap.size)) true 38 v1 d1 p1 := fun W' bel => Below.trod laidOut (by kernel_rfl) (of_decide_eq_true (by kernel_rfl)) h1 bel (fun x hx => by obtain ⟨fuel, hf⟩ := h1; exact DataW.trod_lt _ _ _ _ hf x hx)
  have k2 : ∀ (W' : World), Below W.heap.size W W' → DataW.Trod enc Try.prog W' 0 (fun b => decide (b < W.heap.size)) true 39 v2 d2 p2 := fun W' bel => Below.trod laidOut (by kernel_rfl) (of_decide_eq_true (by kernel_rfl)) h2 bel (fun x hx => by obtain ⟨fuel, hf⟩ := h2; exact DataW.trod_lt _ _ _ _ hf x hx)
  obtain ⟨x0_0, x0_1, x0_2, x0_3, x0_4, x0_5, x0_6, x0_7, rfl⟩ := arr_regs (hval 0 38 v0 rfl rfl) h0
  obtain ⟨x1_0, x1_1, x1_2, x1_3, x1_4, x1_5, x1_6, x1_7, rfl⟩ := arr_regs (hval 1 38 v1 rfl rfl) h1
  obtain ⟨zs2, p2', cap2, rfl, c2, w2⟩ := slice_ints Try.underlying39 Try.underlying3 (by kernel_rfl) (hval 2 39 v2 rfl rfl) h2
  clear hA0 hval0 hval
  refine (bankOthers_walk x0_0 x0_1 x0_2 x0_3 x0_4 x0_5 x0_6 x0_7 x1_0 x1_1 x1_2 x1_3 x1_4 x1_5 x1_6 x1_7 zs2 p2' cap2 W c2 w2).mono fun e W' ⟨he, hg⟩ => ?_
  have bel : Below W.heap.size W W' := ⟨hg.os, hg.tape, hg.output, hg.size, fun k hk => hg.block k hk (by simp)⟩
  subst he
  exact ⟨_, rfl, _, _, _, [], _, [], hW', trodAll_mk1 (shut_bool Try.underlying4 _), (trodAll_cons_mk (k0 W' bel) (trodAll_cons_mk (k1 W' bel) (trodAll_cons_mk (k2 W' bel) trodAll_mk0))), rfl, bel.frame _, fun h => by cases h⟩

theorem over : Rows.bankOthersRow.holds Try.pinned (OpenSpec.ofChange Rows.bankOthersSpec) :=
  OpenClaim.holds_of_wide 5 Try.f5 rfl rfl rfl rfl rfl rfl rfl ⟨rfl, rfl, rfl, rfl, rfl⟩ rfl rfl rfl rfl rfl (by kernel_rfl) Try.func5 (by kernel_rfl)
    (of_decide_eq_true (by kernel_rfl)) (by unfold Func.isWrapper; first | (rw [if_pos (by decide +kernel)]; kernel_rfl) | (rw [if_neg (by decide +kernel)]; exact ⟨rfl, rfl⟩))
    (fun os started H enc _ => lifted os started H enc)

theorem proved : Rows.BankOthersSaid :=
  over
#print axioms proved
end bankOthers
end Go.Proofs.Ytibengibhihgpaa
