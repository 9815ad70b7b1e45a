/-
  MarkOnce holds: whoever asks, whatever is dropped.
-/
import Derived.Test.YtlcmcdgbidiicaaMarkC
import Derived.Test.YtlcmcdgbidiicaaMarkB
import Derived.Test.YtlcmcdgbidiicaaOpens
import Derived.Deep.Cut
import Derived.Deep.CutRange
namespace Go.Proofs.Ytlcmcdgbidiicaa
open Go Go.RowKit Go.Maps Go.Am
set_option linter.unusedVariables false

theorem getD_mem {l : List Int} {k : Nat} (h : k < l.length) : l.getD k 0 ∈ l := by
  rw [List.getD_eq_getElem?_getD, List.getElem?_eq_getElem h]; simp

theorem add_block (a : Addr) (i : Nat) : (a.add i).block = a.block := by unfold Addr.add; split <;> rfl

theorem emod_range (d : Int) {n : Int} (h : 0 < n) : 0 ≤ d % n ∧ d % n < n := ⟨Int.emod_nonneg _ (by omega), Int.emod_lt_of_pos _ h⟩

theorem wf_u8 {a : Int} (h : (Lit.int .u8 a).wf = true) : 0 ≤ a ∧ a < 256 := by
  simp only [Lit.wf, Bool.and_eq_true, decide_eq_true_eq] at h
  have hm : IntKind.u8.min = 0 := by decide
  have hM : IntKind.u8.max = 255 := by decide
  rw [hm, hM] at h
  omega

theorem row_u64 {w : World} {base : Nat} {v : Value} {L : List Int} (hrow : w.ownsRow base 23 1 v L.length (L.map (Value.int .u64))) (h0 : 0 < L.length) : ∃ g cap, v = .slice (some ⟨g, 0, none⟩) L.length cap ∧ base ≤ g ∧ g < w.heap.size ∧ ∀ i, i < L.length → w.cell? ⟨g, i, none⟩ = some (.int .u64 (L.getD i 0)) := by
  rcases hrow.2 with ⟨rfl, hz⟩ | ⟨g, cap, cur, rfl, hbase, hb, h1, h2, h3, h4⟩
  · omega
  · refine ⟨g, cap, rfl, hbase, (Array.getElem?_eq_some_iff.1 hb).1, fun i hi => ?_⟩
    have h5 : (cur.toList.take (L.length * 1))[i]? = (L.map (Value.int .u64))[i]? := by rw [h4]
    rw [List.getElem?_take_of_lt (by omega), List.getElem?_map] at h5
    have h6 : L[i]? = some (L.getD i 0) := by rw [List.getD_eq_getElem?_getD, List.getElem?_eq_getElem (by omega)]; rfl
    rw [h6] at h5
    simp only [World.cell?, hb]
    simpa using h5

theorem row_slice {w : World} {base : Nat} {v : Value} {L : List Int} (hrow : w.ownsRow base 23 1 v L.length (L.map (Value.int .u64))) : ∃ q cap, v = .slice q L.length cap := by
  rcases hrow.2 with ⟨rfl, hz⟩ | ⟨g, cap, cur, rfl, _⟩
  · exact ⟨none, 0, by rw [hz]⟩
  · exact ⟨_, _, rfl⟩

theorem MarksAt.nodup {w : World} {B b n : Nat} {g : Nat → Int} {L : List Int} (h : MarksAt w B b n g L) : L.Nodup := by
  obtain ⟨D, hown, hD⟩ := h.own
  exact hD.nodup

theorem MarksAt.mono {w : World} {B b n n' : Nat} {g : Nat → Int} {L : List Int} (h : MarksAt w B b n g L) (hn : n ≤ n') : MarksAt w B b n' g L := by
  obtain ⟨D, hown, hD⟩ := h.own
  exact ⟨h.c, h.fz, h.ptr, h.lt, h.ne, ⟨D, hown.mono hn, hD⟩, h.of, h.few, fun i => by have := h.gb i; omega⟩

theorem give0_full (B b n : Nat) (g : Nat → Int) (L : List Int) (w : World) (h : MarksAt w B b n g L) (hn : n ≤ 1000) (hf : (ofWho L 0).length = 4) :
    Calls Try.prog 20 #[.pointer (some ⟨B, 0, none⟩), .int .i64 0] w fun e w' => e = .returned (.tuple #[.int .u64 0, .int .i64 (-3)]) ∧ GrowBut w w' [] := giveM_full B b n g L 0 w h (by omega) hn hf

theorem give0_more (B b n : Nat) (g : Nat → Int) (L : List Int) (w : World) (h : MarksAt w B b n g L) (hn : n ≤ 1000) (hf : (ofWho L 0).length ≠ 4) :
    Calls Try.prog 20 #[.pointer (some ⟨B, 0, none⟩), .int .i64 0] w fun e w' => e = .returned (.tuple #[.int .u64 (4294967296 + (g 0 + 1)), .int .i64 0]) ∧
      MarksAt w' B b (n + 1) (upG g 0) ((4294967296 + (g 0 + 1)) :: L) ∧ GrowBut w w' [B, b] := by
  have := giveM_more B b n g L 0 w h (by omega) hn hf
  simpa using this

theorem OfAns.sl {w w' : World} {F : Nat} {v : Value} (h : OfAns w w' F v) : ∃ q cap, v = .slice q F cap := by
  rcases h with ⟨rfl, rfl⟩ | ⟨g, cap, rfl, _⟩
  · exact ⟨_, _, rfl⟩
  · exact ⟨_, _, rfl⟩

theorem ofWho_perm {LA L : List Int} (h : LA.Perm (ofWho L 0)) : ofWho LA 0 = LA := by
  refine List.filter_eq_self.2 fun x hx => ?_
  have := h.mem_iff.1 hx
  simpa [ofWho] using (List.mem_filter.1 this).2

theorem ofWho_len {LA L : List Int} (h : LA.Perm (ofWho L 0)) : (ofWho LA 0).length = (ofWho L 0).length := by
  rw [ofWho_perm h, h.length_eq]

/-- The two and their marks. -/
def OnceAt (w : World) (B b A a n : Nat) (all : List Int) : Prop := ∃ g L gA LA, MarksAt w B b n g L ∧ MarksAt w A a n gA LA ∧ LA.Perm (ofWho L 0) ∧ gA 0 = g 0 ∧ ∀ x ∈ all, MarkOf g x

theorem OnceAt.kept {w w' : World} {B b A a n : Nat} {all : List Int} {l : List Nat} (h : OnceAt w B b A a n all) (hg : GrowBut w w' l) (h1 : B ∉ l) (h2 : b ∉ l) (h3 : A ∉ l) (h4 : a ∉ l) : OnceAt w' B b A a n all := by
  obtain ⟨g, L, gA, LA, hM, hA, r⟩ := h
  exact ⟨g, L, gA, LA, hM.kept hg h1 h2, hA.kept hg h3 h4, r⟩

theorem GrowBut.of_opt {a b : World} {o : Option Nat} (h : a.grownBy b o) : GrowBut a b o.toList :=
  ⟨h.os, h.tape, h.output, h.size, fun j hj hn => h.block j hj (fun e => hn (by rw [← e]; simp))⟩

set_option maxRecDepth 100000 in
set_option maxHeartbeats 4000000 in
theorem markOnce_walk (zs : List Int) (p : Option Addr) (cap : Nat) (ys : List Int) (q : Option Addr) (cap2 : Nat) (w : World) (hz : ∀ i, i < zs.length → ∃ a, p = some a ∧ a.block < w.heap.size ∧ w.cell? (a.add i) = some (.int .u8 (zs.getD i 0))) (hzw : ∀ n ∈ zs, (Lit.int .u8 n).wf = true)
    (hy : ∀ i, i < ys.length → ∃ a, q = some a ∧ a.block < w.heap.size ∧ w.cell? (a.add i) = some (.int .u8 (ys.getD i 0))) (hyw : ∀ n ∈ ys, (Lit.int .u8 n).wf = true) :
    Calls Try.prog 4 #[.slice p zs.length cap, .slice q ys.length cap2] w fun e w' => e = .returned (.bool true) ∧ w.grownBy w' none := by
  by_cases hbad : 60 < zs.length ∨ ys.length < zs.length
  · by_cases h60 : 60 < zs.length
    · have h1 : (60 : Int) < (zs.length : Int) := by omega
      go_enter Try.func4, Try.ntmps4
      go_wp2_with (first
        | (go_at_call 18; refine (begunMark_true _).mono ?_; rintro e w1 ⟨rfl, hb1⟩)
        | go_in)
      go_ret
      exact ⟨rfl, (GrowBut.of_below hb1).keepAll⟩
    · have h1 : ¬ (60 : Int) < (zs.length : Int) := by omega
      have h2 : (ys.length : Int) < (zs.length : Int) := by omega
      go_enter Try.func4, Try.ntmps4
      go_wp2_with (first
        | (go_at_call 18; refine (begunMark_true _).mono ?_; rintro e w1 ⟨rfl, hb1⟩)
        | go_in)
      go_ret
      exact ⟨rfl, (GrowBut.of_below hb1).keepAll⟩
  have h1 : ¬ (60 : Int) < (zs.length : Int) := by omega
  have h2 : ¬ (ys.length : Int) < (zs.length : Int) := by omega
  go_enter Try.func4, Try.ntmps4
  go_wp2_with (first
    | (go_at_call 18; refine (begunMark_true _).mono ?_; rintro e w1 ⟨rfl, hb1⟩)
    | (go_at_call 19; refine (newM_calls w1).mono ?_; rintro e w2 ⟨B, b, rfl, hM2, hB2, hb2, hg2⟩)
    | (go_at_call 19; refine (newM_calls w2).mono ?_; rintro e w3 ⟨A, a, rfl, hA3, hA3', ha3, hg3⟩)
    | go_in)
  have hw1 : GrowBut w w1 [] := .of_below hb1
  have hB2l := hM2.lt
  have hb2l := hM2.blt
  have hA3l := hA3.lt
  have ha3l := hA3.blt
  have hs1 := hw1.size
  have hs3 := hg3.size
  have hM3 := hM2.kept hg3 (by simp) (by simp)
  have hw3 : GrowBut w w3 [] := (hw1.trans hg2).trans hg3
  clear hM2 hg2 hg3 hb1
  go_loopw [7, 8] (fun v7 v8 wr => ∃ (i : Nat) (all : List Int) (v : Value), v7 = v ∧ v8 = .int .i64 i ∧ i ≤ zs.length ∧ all.length ≤ i ∧ OnceAt wr B b A a i all ∧ wr.ownsRow w3.heap.size 23 1 v all.length (all.map (Value.int .u64)) ∧ (all = [] → v = .slice none 0 0) ∧ GrowBut w3 wr [B, b, A, a])
    (fun _ v8 _ => zs.length - (match v8 with | .int _ k => k.toNat | _ => 0))
  case atStart => exact ⟨0, [], _, rfl, rfl, by omega, by simp, ⟨_, _, _, _, hM3, hA3, by simp [ofWho], rfl, fun x hx => (by cases hx)⟩, World.ownsRow_nil _ _ _ _, fun _ => rfl, .refl _ _⟩
  case round =>
    obtain ⟨i, all, v, rfl, rfl, hi, hal, ⟨g, L, gA, LA, hM, hA, hP, hg0, hall⟩, hrow, hnil, hgr⟩ := hrel
    by_cases hlt : i < zs.length
    · obtain ⟨az, rfl, hazb, hcz⟩ := hz i hlt
      obtain ⟨ay, rfl, hayb, hcy⟩ := hy i (by omega)
      have hgw : GrowBut w wr [B, b, A, a] := (hw3.mono (fun x hx => nomatch hx)).trans hgr
      have hczr := hgw.cell hcz (by simp [add_block]; omega)
      have hcyr := hgw.cell hcy (by simp [add_block]; omega)
      have hwz := wf_u8 (hzw _ (getD_mem hlt))
      have hwy := wf_u8 (hyw (ys.getD i 0) (getD_mem (by omega)))
      generalize zs.getD i 0 = z at hczr hwz
      have hcy0 := hcy
      generalize ys.getD i 0 = d at hcyr hwy hcy0
      clear hcz hcy
      have hlt' : (i : Int) < (zs.length : Int) := by omega
      obtain ⟨s, hs, hs6⟩ : ∃ s : Nat, z % 6 = (s : Int) ∧ s < 6 := ⟨(z % 6).toNat, by omega, by omega⟩
      have hgb := hM.gb
      have hgab := hA.gb
      have hF0 : (ofWho LA 0).length = (ofWho L 0).length := ofWho_len hP
      by_cases hF : (ofWho L s).length = 4
      · have hO := ofM_calls B b i g L s wr hM (by omega)
        rw [hF] at hO
        by_cases hs0 : s = 0
        · subst hs0
          simp only [Int.cast_ofNat_Int] at hF hs hO
          go_upto_region 16 with (first
            | (go_at_call 24; refine hO.mono ?_; rintro e w4 ⟨v4, rfl, ha4, hg4⟩; obtain ⟨q4, cap4, rfl⟩ := ha4.sl)
            | (go_at_call 20; refine (give0_full B b i g L w4 (hM.kept hg4 (by simp) (by simp)) (by omega) hF).mono ?_; rintro e w5 ⟨rfl, hg5⟩)
            | go_in)
          go_upto_region 28 with (first
            | (go_at_call 20; refine (give0_full A a i gA LA w5 ((hA.kept hg4 (by simp) (by simp)).kept hg5 (by simp) (by simp)) (by omega) (hF0.trans hF)).mono ?_; rintro e wt ⟨rfl, hg6⟩)
            | go_in)
          have hg46 := (hg4.trans hg5).trans hg6
          obtain ⟨all', v', hv', hOn, hrowt, hnilt, hlen', hgt⟩ : ∃ all' v', v' = u7 ∧ OnceAt wt B b A a (i + 1) all' ∧ wt.ownsRow w3.heap.size 23 1 v' all'.length (all'.map (Value.int .u64)) ∧ (all' = [] → v' = .slice none 0 0) ∧ all'.length ≤ i + 1 ∧ GrowBut w3 wt [B, b, A, a] :=
            ⟨all, u7, rfl, ⟨g, L, gA, LA, (hM.kept hg46 (by simp) (by simp)).mono (by omega), (hA.kept hg46 (by simp) (by simp)).mono (by omega), hP, hg0, hall⟩, hg46.row hrow (fun j _ => by simp), hnil, by omega, hgr.trans (hg46.mono (fun x hx => nomatch hx))⟩
          subst hv'
          obtain ⟨g', L', gA', LA', hMt, hAt, hPt, hg0t, hallt⟩ := hOn
          have hgtb := hMt.gb
          have hgt1000 : ∀ j, g' j < 1000000 := fun j => by have := hgtb j; omega
          have hcyt := ((hw3.mono (fun x hx => nomatch hx)).trans hgt).cell hcy0 (by simp [add_block]; omega)
          by_cases hd : 128 < d
          · have hd' : (128 : Int) < d := hd
            by_cases hln : 0 < all'.length
            · obtain ⟨gr, cr, rfl, hgr0, hgrl, hrc⟩ := row_u64 hrowt hln
              have hk0 : (0 : Int) < (all'.length : Int) := by omega
              have hkr := emod_range d hk0
              obtain ⟨k, hk, hkl⟩ : ∃ k : Nat, d % (all'.length : Int) = (k : Int) ∧ k < all'.length := ⟨(d % (all'.length : Int)).toNat, by omega, by omega⟩
              have hkl' : (k : Int) < (all'.length : Int) := by omega
              have hxk := hrc k hkl
              clear hrc
              have hmx := hallt (all'.getD k 0) (getD_mem hkl)
              generalize all'.getD k 0 = x at hxk hmx
              have hwx := hmx.wf hgt1000
              have hBn : gr ≠ B ∧ gr ≠ b ∧ gr ≠ A ∧ gr ≠ a := by omega
              by_cases hw0 : whose x = 0
              · have hmm : decide (x ∈ LA') = decide (x ∈ L') := decide_eq_decide.2 (by rw [hPt.mem_iff]; simp [ofWho, hw0])
                have hsd := fun W => sender_calls x hwx W
                rw [hw0] at hsd
                go_upto_region 31 with (first
                  | (go_at_call 22; refine (dropM_calls B b (i + 1) g' L' x wt hMt hwx).mono ?_; rintro e wd ⟨rfl, hMd, hgd⟩)
                  | go_in)
                have hxd := hgd.cell hxk (by simp; omega)
                have hAd := hAt.kept hgd (by simp; omega) (by simp; omega)
                have hdA := dropM_calls A a (i + 1) gA' LA' x wd hAd hwx
                rw [hmm] at hdA
                generalize decide (x ∈ L') = ans at hdA ⊢
                go_wp2_with (first
                  | (go_at_call 28; refine (hsd _).mono ?_; rintro e ws ⟨rfl, hws⟩; rw [hws]; clear hws ws)
                  | (go_at_call 22; refine hdA.mono ?_; rintro e we ⟨rfl, hAe, hge⟩)
                  | go_in)
                have hMe := hMd.kept hge (by simp; omega) (by simp; omega)
                have hgde : GrowBut wt we [B, b, A, a] := (hgd.mono (by simp)).trans (hge.mono (by simp))
                exact ⟨⟨i + 1, all', _, rfl, by simp, by omega, hlen', ⟨g', L'.erase x, gA', LA'.erase x, hMe, hAe, by rw [ofWho_erase hMt.nodup, if_pos hw0]; exact hPt.erase x, hg0t, hallt⟩, hgde.row hrowt (fun j hj => by cases hj; simp; omega), hnilt, hgt.trans hgde⟩, by simp; omega⟩
              · have hsd := fun W => sender_calls x hwx W
                have hwi : ¬ (whose x = (0 : Int)) := hw0
                go_upto_region 31 with (first
                  | (go_at_call 22; refine (dropM_calls B b (i + 1) g' L' x wt hMt hwx).mono ?_; rintro e wd ⟨rfl, hMd, hgd⟩)
                  | go_in)
                have hxd := hgd.cell hxk (by simp; omega)
                have hAd := hAt.kept hgd (by simp; omega) (by simp; omega)
                generalize hwe : whose x = sx at hsd hwi
                go_wp2_with (first
                  | (go_at_call 28; refine (hsd _).mono ?_; rintro e ws ⟨rfl, hws⟩; rw [hws]; clear hws ws)
                  | go_in)
                exact ⟨⟨i + 1, all', _, rfl, by simp, by omega, hlen', ⟨g', L'.erase x, gA', LA', hMd, hAd, by rw [ofWho_erase hMt.nodup, if_neg hw0]; exact hPt, hg0t, hallt⟩, hgd.row hrowt (fun j hj => by cases hj; simp; omega), hnilt, hgt.trans (hgd.mono (by simp))⟩, by simp; omega⟩
            · have hln' : ¬ (0 : Int) < (all'.length : Int) := by omega
              obtain ⟨q', cq', rfl⟩ := row_slice hrowt
              go_wp2_with go_in
              exact ⟨⟨i + 1, all', _, rfl, by simp, by omega, hlen', ⟨g', L', gA', LA', hMt, hAt, hPt, hg0t, hallt⟩, hrowt, hnilt, hgt⟩, by simp; omega⟩
          · have hd' : ¬ (128 : Int) < d := hd
            go_wp2_with go_in
            exact ⟨⟨i + 1, all', v', rfl, by simp, by omega, hlen', ⟨g', L', gA', LA', hMt, hAt, hPt, hg0t, hallt⟩, hrowt, hnilt, hgt⟩, by simp; omega⟩
        · go_upto_region 28 with (first
            | (go_at_call 24; refine hO.mono ?_; rintro e w4 ⟨v4, rfl, ha4, hg4⟩; obtain ⟨q4, cap4, rfl⟩ := ha4.sl)
            | (go_at_call 20; refine (giveM_full B b i g L s w4 (hM.kept hg4 (by simp) (by simp)) hs6 (by omega) hF).mono ?_; rintro e wt ⟨rfl, hg5⟩)
            | go_in)
          have hg46 := hg4.trans hg5
          obtain ⟨all', v', hv', hOn, hrowt, hnilt, hlen', hgt⟩ : ∃ all' v', v' = u7 ∧ OnceAt wt B b A a (i + 1) all' ∧ wt.ownsRow w3.heap.size 23 1 v' all'.length (all'.map (Value.int .u64)) ∧ (all' = [] → v' = .slice none 0 0) ∧ all'.length ≤ i + 1 ∧ GrowBut w3 wt [B, b, A, a] :=
            ⟨all, u7, rfl, ⟨g, L, gA, LA, (hM.kept hg46 (by simp) (by simp)).mono (by omega), (hA.kept hg46 (by simp) (by simp)).mono (by omega), hP, hg0, hall⟩, hg46.row hrow (fun j _ => by simp), hnil, by omega, hgr.trans (hg46.mono (fun x hx => nomatch hx))⟩
          subst hv'
          obtain ⟨g', L', gA', LA', hMt, hAt, hPt, hg0t, hallt⟩ := hOn
          have hgtb := hMt.gb
          have hgt1000 : ∀ j, g' j < 1000000 := fun j => by have := hgtb j; omega
          have hcyt := ((hw3.mono (fun x hx => nomatch hx)).trans hgt).cell hcy0 (by simp [add_block]; omega)
          by_cases hd : 128 < d
          · have hd' : (128 : Int) < d := hd
            by_cases hln : 0 < all'.length
            · obtain ⟨gr, cr, rfl, hgr0, hgrl, hrc⟩ := row_u64 hrowt hln
              have hk0 : (0 : Int) < (all'.length : Int) := by omega
              have hkr := emod_range d hk0
              obtain ⟨k, hk, hkl⟩ : ∃ k : Nat, d % (all'.length : Int) = (k : Int) ∧ k < all'.length := ⟨(d % (all'.length : Int)).toNat, by omega, by omega⟩
              have hkl' : (k : Int) < (all'.length : Int) := by omega
              have hxk := hrc k hkl
              clear hrc
              have hmx := hallt (all'.getD k 0) (getD_mem hkl)
              generalize all'.getD k 0 = x at hxk hmx
              have hwx := hmx.wf hgt1000
              have hBn : gr ≠ B ∧ gr ≠ b ∧ gr ≠ A ∧ gr ≠ a := by omega
              by_cases hw0 : whose x = 0
              · have hmm : decide (x ∈ LA') = decide (x ∈ L') := decide_eq_decide.2 (by rw [hPt.mem_iff]; simp [ofWho, hw0])
                have hsd := fun W => sender_calls x hwx W
                rw [hw0] at hsd
                go_upto_region 31 with (first
                  | (go_at_call 22; refine (dropM_calls B b (i + 1) g' L' x wt hMt hwx).mono ?_; rintro e wd ⟨rfl, hMd, hgd⟩)
                  | go_in)
                have hxd := hgd.cell hxk (by simp; omega)
                have hAd := hAt.kept hgd (by simp; omega) (by simp; omega)
                have hdA := dropM_calls A a (i + 1) gA' LA' x wd hAd hwx
                rw [hmm] at hdA
                generalize decide (x ∈ L') = ans at hdA ⊢
                go_wp2_with (first
                  | (go_at_call 28; refine (hsd _).mono ?_; rintro e ws ⟨rfl, hws⟩; rw [hws]; clear hws ws)
                  | (go_at_call 22; refine hdA.mono ?_; rintro e we ⟨rfl, hAe, hge⟩)
                  | go_in)
                have hMe := hMd.kept hge (by simp; omega) (by simp; omega)
                have hgde : GrowBut wt we [B, b, A, a] := (hgd.mono (by simp)).trans (hge.mono (by simp))
                exact ⟨⟨i + 1, all', _, rfl, by simp, by omega, hlen', ⟨g', L'.erase x, gA', LA'.erase x, hMe, hAe, by rw [ofWho_erase hMt.nodup, if_pos hw0]; exact hPt.erase x, hg0t, hallt⟩, hgde.row hrowt (fun j hj => by cases hj; simp; omega), hnilt, hgt.trans hgde⟩, by simp; omega⟩
              · have hsd := fun W => sender_calls x hwx W
                have hwi : ¬ (whose x = (0 : Int)) := hw0
                go_upto_region 31 with (first
                  | (go_at_call 22; refine (dropM_calls B b (i + 1) g' L' x wt hMt hwx).mono ?_; rintro e wd ⟨rfl, hMd, hgd⟩)
                  | go_in)
                have hxd := hgd.cell hxk (by simp; omega)
                have hAd := hAt.kept hgd (by simp; omega) (by simp; omega)
                generalize hwe : whose x = sx at hsd hwi
                go_wp2_with (first
                  | (go_at_call 28; refine (hsd _).mono ?_; rintro e ws ⟨rfl, hws⟩; rw [hws]; clear hws ws)
                  | go_in)
                exact ⟨⟨i + 1, all', _, rfl, by simp, by omega, hlen', ⟨g', L'.erase x, gA', LA', hMd, hAd, by rw [ofWho_erase hMt.nodup, if_neg hw0]; exact hPt, hg0t, hallt⟩, hgd.row hrowt (fun j hj => by cases hj; simp; omega), hnilt, hgt.trans (hgd.mono (by simp))⟩, by simp; omega⟩
            · have hln' : ¬ (0 : Int) < (all'.length : Int) := by omega
              obtain ⟨q', cq', rfl⟩ := row_slice hrowt
              go_wp2_with go_in
              exact ⟨⟨i + 1, all', _, rfl, by simp, by omega, hlen', ⟨g', L', gA', LA', hMt, hAt, hPt, hg0t, hallt⟩, hrowt, hnilt, hgt⟩, by simp; omega⟩
          · have hd' : ¬ (128 : Int) < d := hd
            go_wp2_with go_in
            exact ⟨⟨i + 1, all', v', rfl, by simp, by omega, hlen', ⟨g', L', gA', LA', hMt, hAt, hPt, hg0t, hallt⟩, hrowt, hnilt, hgt⟩, by simp; omega⟩
      · have hO := ofM_calls B b i g L s wr hM (by omega)
        have hne4 : ¬ ((ofWho L s).length : Int) = 4 := by omega
        obtain ⟨i0, hi0, hz0, hz1, hz2⟩ := info_parts infoU
        by_cases hs0 : s = 0
        · subst hs0
          simp only [Int.cast_ofNat_Int] at hF hs hO hne4
          have hGB := fun w4 h => give0_more B b i g L w4 h (by omega) hF
          have hGA := fun w5 h => give0_more A a i gA LA w5 h (by omega) (by rw [hF0]; exact hF)
          rw [hg0] at hGA
          have hxnew : ∀ y ∈ all, y ≠ 4294967296 + (g 0 + 1) := fun y hy => by have := (hall y hy).ne (s := 0) (fun i => by have := hgb i; omega) (hgb 0).1; simpa using this
          have hxof : MarkOf (upG g 0) (4294967296 + (g 0 + 1)) := by have := MarkOf.new (g := g) (s := 0) (by omega) (hgb 0).1; simpa using this
          have hxw : whose (4294967296 + (g 0 + 1)) = 0 := by have := hgb 0; unfold whose; omega
          have hxwf := hxof.wf (fun j => by unfold upG; have := hgb j; have := hgb 0; split <;> omega)
          have hup : upG gA 0 0 = upG g 0 0 := by simp [upG, hg0]
          generalize hx : 4294967296 + (g 0 + 1) = x at hGA hGB hxnew hxof hxw hxwf
          generalize (ofWho L 0).length = F at hO hne4
          go_upto_region 16 with (first
            | (go_at_call 24; refine hO.mono ?_; rintro e w4 ⟨v4, rfl, ha4, hg4⟩; obtain ⟨q4, cap4, rfl⟩ := ha4.sl)
            | (go_at_call 20; refine (hGB w4 (hM.kept hg4 (by simp) (by simp))).mono ?_; rintro e w5 ⟨rfl, hM5, hg5⟩)
            | go_in)
          have hA5 := (hA.kept hg4 (by simp) (by simp)).kept hg5 (by simp; omega) (by simp; omega)
          go_upto_region 20 with (first
            | (go_at_call 20; refine (hGA w5 hA5).mono ?_; rintro e wq ⟨rfl, hAq, hg6⟩)
            | go_in)
          have hMq := hM5.kept hg6 (by simp; omega) (by simp; omega)
          have hOq : OnceAt wq B b A a (i + 1) (all ++ [x]) := ⟨_, _, _, _, hMq, hAq, by rw [ofWho_cons, if_pos hxw]; exact hP.cons x, hup, fun y hy => by rcases List.mem_append.1 hy with h | h; exact (hall y h).up 0; simp at h; subst h; exact hxof⟩
          have hg46 : GrowBut wr wq [B, b, A, a] := ((hg4.mono (fun x hx => nomatch hx)).trans (hg5.mono (by simp))).trans (hg6.mono (by simp))
          have hsd := fun W => sender_calls x hxwf W
          rw [hxw] at hsd
          have hrowq := hg46.row hrow (fun j hj => by have := (hrow.lt j hj).1; simp; omega)
          have hgq := hgr.trans hg46
          have hcyq := hg46.cell hcyr (by simp [add_block]; omega)
          have hseen : ∀ k, k < all.length → ∃ gq cq, u7 = .slice (some ⟨gq, 0, none⟩) all.length cq ∧ wq.cell? ⟨gq, k, none⟩ = some (.int .u64 (all.getD k 0)) := fun k hk => by
            obtain ⟨gq, cq, e, _, _, hc⟩ := row_u64 hrowq (by omega)
            exact ⟨gq, cq, e, hc k hk⟩
          obtain ⟨q7, c7, e7⟩ := row_slice hrowq
          subst e7
          clear hczr hnil
          go_wp2_with go_in
          go_loopw [15] (fun v15 wx => ∃ k : Nat, v15 = .int .i64 k ∧ k ≤ all.length ∧ wx = wq) (fun v15 _ => all.length - (match v15 with | .int _ k => k.toNat | _ => 0))
          case atStart => exact ⟨0, rfl, by omega, rfl⟩
          case round =>
            obtain ⟨k, rfl, hk, rfl⟩ := hrel
            by_cases hkl : k < all.length
            · obtain ⟨gq, cq, e, hck⟩ := hseen k hkl
              simp only [Value.slice.injEq] at e
              obtain ⟨rfl, _, rfl⟩ := e
              have hkl' : (k : Int) < (all.length : Int) := by omega
              have hne := hxnew _ (getD_mem hkl)
              generalize all.getD k 0 = y at hck hne
              go_wp2_with go_in
              exact ⟨⟨k + 1, by simp, by omega, by simp⟩, by simp; omega⟩
            · have hkl' : ¬ (k : Int) < (all.length : Int) := by omega
              go_upto_region 28 with (first
                | (go_at_call 28; refine (hsd _).mono ?_; rintro e ws ⟨rfl, hws⟩; rw [hws]; clear hws ws)
                | (at_builtin; refine wpList_append_own _ rfl _ _ 29 rfl w3.heap.size 23 i0 (.int .u64 0) 1 8 Try.underlying29 hi0 hz0 hz1 hz2 rfl (by decide) _ _ _ rfl (hrowq.alloc _) ⟨wr.heap.size, 0, none⟩ 1 1 [.int .u64 x] rfl rfl (cell_one_new _ _ _) (by simp [Value.oneCell']) (by unfold maxLen at *; omega) (by omega) (by have := hgq.size; simp; omega) ?_; intro v2 wt hown' hg3 hnil3; go_frame)
                | go_in)
              have hoth : ∀ x ∈ (Value.slice q7 all.length c7).ownBlock.toList, w3.heap.size ≤ x := fun x hx => (hrowq.lt x (by simpa using hx)).1
              have hg3' := (GrowBut.alloc _ _ _).trans (GrowBut.of_opt (o := (Value.slice q7 all.length c7).ownBlock) hg3)
              obtain ⟨all', v', hv', hOn, hrowt, hnilt, hlen', hgt⟩ : ∃ all' v', v' = v2 ∧ OnceAt wt B b A a (i + 1) all' ∧ wt.ownsRow w3.heap.size 23 1 v' all'.length (all'.map (Value.int .u64)) ∧ (all' = [] → v' = .slice none 0 0) ∧ all'.length ≤ i + 1 ∧ GrowBut w3 wt [B, b, A, a] :=
                ⟨all ++ [x], v2, rfl, hOq.kept hg3' (fun h => by have := hoth _ h; omega) (fun h => by have := hoth _ h; omega) (fun h => by have := hoth _ h; omega) (fun h => by have := hoth _ h; omega), by simpa using hown', fun h => by simp at h, by simp; omega, hgq.from hg3' (fun x hx => .inr (hoth x hx))⟩
              subst hv'
              obtain ⟨g', L', gA', LA', hMt, hAt, hPt, hg0t, hallt⟩ := hOn
              have hgtb := hMt.gb
              have hgt1000 : ∀ j, g' j < 1000000 := fun j => by have := hgtb j; omega
              have hcyt := ((hw3.mono (fun x hx => nomatch hx)).trans hgt).cell hcy0 (by simp [add_block]; omega)
              by_cases hd : 128 < d
              · have hd' : (128 : Int) < d := hd
                by_cases hln : 0 < all'.length
                · obtain ⟨gr, cr, rfl, hgr0, hgrl, hrc⟩ := row_u64 hrowt hln
                  have hk0 : (0 : Int) < (all'.length : Int) := by omega
                  have hkr := emod_range d hk0
                  obtain ⟨k, hk, hkl⟩ : ∃ k : Nat, d % (all'.length : Int) = (k : Int) ∧ k < all'.length := ⟨(d % (all'.length : Int)).toNat, by omega, by omega⟩
                  have hkl' : (k : Int) < (all'.length : Int) := by omega
                  have hxk := hrc k hkl
                  clear hrc
                  have hmx := hallt (all'.getD k 0) (getD_mem hkl)
                  generalize all'.getD k 0 = x at hxk hmx
                  have hwx := hmx.wf hgt1000
                  have hBn : gr ≠ B ∧ gr ≠ b ∧ gr ≠ A ∧ gr ≠ a := by omega
                  by_cases hw0 : whose x = 0
                  · have hmm : decide (x ∈ LA') = decide (x ∈ L') := decide_eq_decide.2 (by rw [hPt.mem_iff]; simp [ofWho, hw0])
                    have hsd := fun W => sender_calls x hwx W
                    rw [hw0] at hsd
                    go_upto_region 31 with (first
                      | (go_at_call 22; refine (dropM_calls B b (i + 1) g' L' x wt hMt hwx).mono ?_; rintro e wd ⟨rfl, hMd, hgd⟩)
                      | go_in)
                    have hxd := hgd.cell hxk (by simp; omega)
                    have hAd := hAt.kept hgd (by simp; omega) (by simp; omega)
                    have hdA := dropM_calls A a (i + 1) gA' LA' x wd hAd hwx
                    rw [hmm] at hdA
                    generalize decide (x ∈ L') = ans at hdA ⊢
                    go_wp2_with (first
                      | (go_at_call 28; refine (hsd _).mono ?_; rintro e ws ⟨rfl, hws⟩; rw [hws]; clear hws ws)
                      | (go_at_call 22; refine hdA.mono ?_; rintro e we ⟨rfl, hAe, hge⟩)
                      | go_in)
                    have hMe := hMd.kept hge (by simp; omega) (by simp; omega)
                    have hgde : GrowBut wt we [B, b, A, a] := (hgd.mono (by simp)).trans (hge.mono (by simp))
                    exact ⟨⟨i + 1, all', _, rfl, by simp, by omega, hlen', ⟨g', L'.erase x, gA', LA'.erase x, hMe, hAe, by rw [ofWho_erase hMt.nodup, if_pos hw0]; exact hPt.erase x, hg0t, hallt⟩, hgde.row hrowt (fun j hj => by cases hj; simp; omega), hnilt, hgt.trans hgde⟩, by simp; omega⟩
                  · have hsd := fun W => sender_calls x hwx W
                    have hwi : ¬ (whose x = (0 : Int)) := hw0
                    go_upto_region 31 with (first
                      | (go_at_call 22; refine (dropM_calls B b (i + 1) g' L' x wt hMt hwx).mono ?_; rintro e wd ⟨rfl, hMd, hgd⟩)
                      | go_in)
                    have hxd := hgd.cell hxk (by simp; omega)
                    have hAd := hAt.kept hgd (by simp; omega) (by simp; omega)
                    generalize hwe : whose x = sx at hsd hwi
                    go_wp2_with (first
                      | (go_at_call 28; refine (hsd _).mono ?_; rintro e ws ⟨rfl, hws⟩; rw [hws]; clear hws ws)
                      | go_in)
                    exact ⟨⟨i + 1, all', _, rfl, by simp, by omega, hlen', ⟨g', L'.erase x, gA', LA', hMd, hAd, by rw [ofWho_erase hMt.nodup, if_neg hw0]; exact hPt, hg0t, hallt⟩, hgd.row hrowt (fun j hj => by cases hj; simp; omega), hnilt, hgt.trans (hgd.mono (by simp))⟩, by simp; omega⟩
                · have hln' : ¬ (0 : Int) < (all'.length : Int) := by omega
                  obtain ⟨q', cq', rfl⟩ := row_slice hrowt
                  go_wp2_with go_in
                  exact ⟨⟨i + 1, all', _, rfl, by simp, by omega, hlen', ⟨g', L', gA', LA', hMt, hAt, hPt, hg0t, hallt⟩, hrowt, hnilt, hgt⟩, by simp; omega⟩
              · have hd' : ¬ (128 : Int) < d := hd
                go_wp2_with go_in
                exact ⟨⟨i + 1, all', v', rfl, by simp, by omega, hlen', ⟨g', L', gA', LA', hMt, hAt, hPt, hg0t, hallt⟩, hrowt, hnilt, hgt⟩, by simp; omega⟩
        · have hGB := fun w4 h => giveM_more B b i g L s w4 h hs6 (by omega) hF
          have hxnew : ∀ y ∈ all, y ≠ (s + 1) * 4294967296 + (g s + 1) := fun y hy => (hall y hy).ne (fun i => by have := hgb i; omega) (hgb s).1
          have hxof : MarkOf (upG g s) ((s + 1) * 4294967296 + (g s + 1)) := MarkOf.new hs6 (hgb s).1
          have hxw : whose ((s + 1) * 4294967296 + (g s + 1)) = s := by have := hgb s; unfold whose; omega
          have hxwf := hxof.wf (fun j => by unfold upG; have := hgb j; have := hgb s; split <;> omega)
          have hsi : ¬ (s : Int) = 0 := by omega
          have hup : gA 0 = upG g s 0 := by rw [hg0]; unfold upG; rw [if_neg (fun e => hs0 e.symm)]
          generalize hx : (s + 1) * 4294967296 + (g s + 1) = x at hGB hxnew hxof hxw hxwf
          generalize (ofWho L s).length = F at hO hne4
          go_upto_region 20 with (first
            | (go_at_call 24; refine hO.mono ?_; rintro e w4 ⟨v4, rfl, ha4, hg4⟩; obtain ⟨q4, cap4, rfl⟩ := ha4.sl)
            | (go_at_call 20; refine (hGB w4 (hM.kept hg4 (by simp) (by simp))).mono ?_; rintro e wq ⟨rfl, hMq, hg5⟩)
            | go_in)
          have hAq := ((hA.kept hg4 (by simp) (by simp)).kept hg5 (by simp; omega) (by simp; omega)).mono (n' := i + 1) (by omega)
          have hOq : OnceAt wq B b A a (i + 1) (all ++ [x]) := ⟨_, _, _, _, hMq, hAq, by rw [ofWho_cons, if_neg (by rw [hxw]; exact hsi)]; exact hP, hup, fun y hy => by rcases List.mem_append.1 hy with h | h; exact (hall y h).up s; simp at h; subst h; exact hxof⟩
          have hg46 : GrowBut wr wq [B, b, A, a] := (hg4.mono (fun x hx => nomatch hx)).trans (hg5.mono (by simp))
          have hsd := fun W => sender_calls x hxwf W
          rw [hxw] at hsd
          have hrowq := hg46.row hrow (fun j hj => by have := (hrow.lt j hj).1; simp; omega)
          have hgq := hgr.trans hg46
          have hcyq := hg46.cell hcyr (by simp [add_block]; omega)
          have hseen : ∀ k, k < all.length → ∃ gq cq, u7 = .slice (some ⟨gq, 0, none⟩) all.length cq ∧ wq.cell? ⟨gq, k, none⟩ = some (.int .u64 (all.getD k 0)) := fun k hk => by
            obtain ⟨gq, cq, e, _, _, hc⟩ := row_u64 hrowq (by omega)
            exact ⟨gq, cq, e, hc k hk⟩
          obtain ⟨q7, c7, e7⟩ := row_slice hrowq
          subst e7
          clear hczr hnil
          go_wp2_with go_in
          go_loopw [15] (fun v15 wx => ∃ k : Nat, v15 = .int .i64 k ∧ k ≤ all.length ∧ wx = wq) (fun v15 _ => all.length - (match v15 with | .int _ k => k.toNat | _ => 0))
          case atStart => exact ⟨0, rfl, by omega, rfl⟩
          case round =>
            obtain ⟨k, rfl, hk, rfl⟩ := hrel
            by_cases hkl : k < all.length
            · obtain ⟨gq, cq, e, hck⟩ := hseen k hkl
              simp only [Value.slice.injEq] at e
              obtain ⟨rfl, _, rfl⟩ := e
              have hkl' : (k : Int) < (all.length : Int) := by omega
              have hne := hxnew _ (getD_mem hkl)
              generalize all.getD k 0 = y at hck hne
              go_wp2_with go_in
              exact ⟨⟨k + 1, by simp, by omega, by simp⟩, by simp; omega⟩
            · have hkl' : ¬ (k : Int) < (all.length : Int) := by omega
              go_upto_region 28 with (first
                | (go_at_call 28; refine (hsd _).mono ?_; rintro e ws ⟨rfl, hws⟩; rw [hws]; clear hws ws)
                | (at_builtin; refine wpList_append_own _ rfl _ _ 29 rfl w3.heap.size 23 i0 (.int .u64 0) 1 8 Try.underlying29 hi0 hz0 hz1 hz2 rfl (by decide) _ _ _ rfl (hrowq.alloc _) ⟨wr.heap.size, 0, none⟩ 1 1 [.int .u64 x] rfl rfl (cell_one_new _ _ _) (by simp [Value.oneCell']) (by unfold maxLen at *; omega) (by omega) (by have := hgq.size; simp; omega) ?_; intro v2 wt hown' hg3 hnil3; go_frame)
                | go_in)
              have hoth : ∀ x ∈ (Value.slice q7 all.length c7).ownBlock.toList, w3.heap.size ≤ x := fun x hx => (hrowq.lt x (by simpa using hx)).1
              have hg3' := (GrowBut.alloc _ _ _).trans (GrowBut.of_opt (o := (Value.slice q7 all.length c7).ownBlock) hg3)
              obtain ⟨all', v', hv', hOn, hrowt, hnilt, hlen', hgt⟩ : ∃ all' v', v' = v2 ∧ OnceAt wt B b A a (i + 1) all' ∧ wt.ownsRow w3.heap.size 23 1 v' all'.length (all'.map (Value.int .u64)) ∧ (all' = [] → v' = .slice none 0 0) ∧ all'.length ≤ i + 1 ∧ GrowBut w3 wt [B, b, A, a] :=
                ⟨all ++ [x], v2, rfl, hOq.kept hg3' (fun h => by have := hoth _ h; omega) (fun h => by have := hoth _ h; omega) (fun h => by have := hoth _ h; omega) (fun h => by have := hoth _ h; omega), by simpa using hown', fun h => by simp at h, by simp; omega, hgq.from hg3' (fun x hx => .inr (hoth x hx))⟩
              subst hv'
              obtain ⟨g', L', gA', LA', hMt, hAt, hPt, hg0t, hallt⟩ := hOn
              have hgtb := hMt.gb
              have hgt1000 : ∀ j, g' j < 1000000 := fun j => by have := hgtb j; omega
              have hcyt := ((hw3.mono (fun x hx => nomatch hx)).trans hgt).cell hcy0 (by simp [add_block]; omega)
              by_cases hd : 128 < d
              · have hd' : (128 : Int) < d := hd
                by_cases hln : 0 < all'.length
                · obtain ⟨gr, cr, rfl, hgr0, hgrl, hrc⟩ := row_u64 hrowt hln
                  have hk0 : (0 : Int) < (all'.length : Int) := by omega
                  have hkr := emod_range d hk0
                  obtain ⟨k, hk, hkl⟩ : ∃ k : Nat, d % (all'.length : Int) = (k : Int) ∧ k < all'.length := ⟨(d % (all'.length : Int)).toNat, by omega, by omega⟩
                  have hkl' : (k : Int) < (all'.length : Int) := by omega
                  have hxk := hrc k hkl
                  clear hrc
                  have hmx := hallt (all'.getD k 0) (getD_mem hkl)
                  generalize all'.getD k 0 = x at hxk hmx
                  have hwx := hmx.wf hgt1000
                  have hBn : gr ≠ B ∧ gr ≠ b ∧ gr ≠ A ∧ gr ≠ a := by omega
                  by_cases hw0 : whose x = 0
                  · have hmm : decide (x ∈ LA') = decide (x ∈ L') := decide_eq_decide.2 (by rw [hPt.mem_iff]; simp [ofWho, hw0])
                    have hsd := fun W => sender_calls x hwx W
                    rw [hw0] at hsd
                    go_upto_region 31 with (first
                      | (go_at_call 22; refine (dropM_calls B b (i + 1) g' L' x wt hMt hwx).mono ?_; rintro e wd ⟨rfl, hMd, hgd⟩)
                      | go_in)
                    have hxd := hgd.cell hxk (by simp; omega)
                    have hAd := hAt.kept hgd (by simp; omega) (by simp; omega)
                    have hdA := dropM_calls A a (i + 1) gA' LA' x wd hAd hwx
                    rw [hmm] at hdA
                    generalize decide (x ∈ L') = ans at hdA ⊢
                    go_wp2_with (first
                      | (go_at_call 28; refine (hsd _).mono ?_; rintro e ws ⟨rfl, hws⟩; rw [hws]; clear hws ws)
                      | (go_at_call 22; refine hdA.mono ?_; rintro e we ⟨rfl, hAe, hge⟩)
                      | go_in)
                    have hMe := hMd.kept hge (by simp; omega) (by simp; omega)
                    have hgde : GrowBut wt we [B, b, A, a] := (hgd.mono (by simp)).trans (hge.mono (by simp))
                    exact ⟨⟨i + 1, all', _, rfl, by simp, by omega, hlen', ⟨g', L'.erase x, gA', LA'.erase x, hMe, hAe, by rw [ofWho_erase hMt.nodup, if_pos hw0]; exact hPt.erase x, hg0t, hallt⟩, hgde.row hrowt (fun j hj => by cases hj; simp; omega), hnilt, hgt.trans hgde⟩, by simp; omega⟩
                  · have hsd := fun W => sender_calls x hwx W
                    have hwi : ¬ (whose x = (0 : Int)) := hw0
                    go_upto_region 31 with (first
                      | (go_at_call 22; refine (dropM_calls B b (i + 1) g' L' x wt hMt hwx).mono ?_; rintro e wd ⟨rfl, hMd, hgd⟩)
                      | go_in)
                    have hxd := hgd.cell hxk (by simp; omega)
                    have hAd := hAt.kept hgd (by simp; omega) (by simp; omega)
                    generalize hwe : whose x = sx at hsd hwi
                    go_wp2_with (first
                      | (go_at_call 28; refine (hsd _).mono ?_; rintro e ws ⟨rfl, hws⟩; rw [hws]; clear hws ws)
                      | go_in)
                    exact ⟨⟨i + 1, all', _, rfl, by simp, by omega, hlen', ⟨g', L'.erase x, gA', LA', hMd, hAd, by rw [ofWho_erase hMt.nodup, if_neg hw0]; exact hPt, hg0t, hallt⟩, hgd.row hrowt (fun j hj => by cases hj; simp; omega), hnilt, hgt.trans (hgd.mono (by simp))⟩, by simp; omega⟩
                · have hln' : ¬ (0 : Int) < (all'.length : Int) := by omega
                  obtain ⟨q', cq', rfl⟩ := row_slice hrowt
                  go_wp2_with go_in
                  exact ⟨⟨i + 1, all', _, rfl, by simp, by omega, hlen', ⟨g', L', gA', LA', hMt, hAt, hPt, hg0t, hallt⟩, hrowt, hnilt, hgt⟩, by simp; omega⟩
              · have hd' : ¬ (128 : Int) < d := hd
                go_wp2_with go_in
                exact ⟨⟨i + 1, all', v', rfl, by simp, by omega, hlen', ⟨g', L', gA', LA', hMt, hAt, hPt, hg0t, hallt⟩, hrowt, hnilt, hgt⟩, by simp; omega⟩
    · have hge : ¬ (i : Int) < (zs.length : Int) := by omega
      go_wp2_with go_in
      go_ret
      exact ⟨rfl, ((hw3.mono (fun x hx => nomatch hx)).from hgr (l := []) (fun x hx => .inr (by simp at hx; omega))).keepAll⟩

end Go.Proofs.Ytlcmcdgbidiicaa
