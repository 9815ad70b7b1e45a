/-
  Two marks, the package's and the reference's, side by side.
-/
import Derived.Test.YtlgfopfibopcnaaRefMark3
namespace Go.Proofs.Ytlgfopfibopcnaa
open Go Go.RowKit Go.Maps Go.Am
set_option linter.unusedVariables false

theorem MarksAt.nodupK {w : World} {B b n : Nat} {g : Nat → Int} {L : List Int} (h : MarksAt w B b n g L) : L.Nodup := by
  obtain ⟨D, _, hD⟩ := h.own
  exact hD.nodup

theorem MarksAt.more {w : World} {B b n n' : Nat} {g : Nat → Int} {L : List Int} (h : MarksAt w B b n g L) (hn : n ≤ n') : MarksAt w B b n' g L := by
  obtain ⟨D, hown, hD⟩ := h.own
  exact ⟨h.c, h.fz, h.ptr, h.lt, h.ne, ⟨D, hown.mono hn, hD⟩, h.of, h.few, fun i => by have := h.gb i; omega⟩

set_option maxRecDepth 100000 in
theorem giveM_arg (B : Nat) (s : Int) (h : s < 0 ∨ 6 ≤ s) (w : World) : Calls Try.prog 20 #[.pointer (some ⟨B, 0, none⟩), .int .i64 s] w fun e w' => e = .returned (.tuple #[.int .u64 0, .int .i64 (-2)]) ∧ w' = w := by
  rcases h with h | h
  · go_enter Try.func20, Try.ntmps20
    go_wp2_with go_in
    go_ret2
    exact ⟨rfl, rfl⟩
  · have h1 : ¬ s < 0 := by omega
    have h2 : s ≥ 6 := h
    go_enter Try.func20, Try.ntmps20
    go_wp2_with go_in
    go_ret2
    exact ⟨rfl, rfl⟩

/-- Marks of one sender rise in the order in which they were given. -/
def EachRises (L : List Int) : Prop := ∀ s, (ofWho L s).Pairwise (· < ·)

theorem ofWho_append (L M : List Int) (s : Int) : ofWho (L ++ M) s = ofWho L s ++ ofWho M s := List.filter_append _ _

theorem ofWho_reverse (L : List Int) (s : Int) : ofWho L.reverse s = (ofWho L s).reverse := by
  unfold ofWho
  rw [List.filter_reverse]

theorem EachRises.filter {L : List Int} (h : EachRises L) (p : Int → Bool) : EachRises (L.filter p) := fun s => by
  have e : ofWho (L.filter p) s = (ofWho L s).filter p := by
    unfold ofWho
    rw [List.filter_filter, List.filter_filter]
    exact List.filter_congr fun x _ => Bool.and_comm _ _
  rw [e]
  exact List.Pairwise.sublist List.filter_sublist (h s)

theorem rises_oneU {L L' : List Int} (h : L.Pairwise (· < ·)) (h' : L'.Pairwise (· < ·)) (hp : L.Perm L') : L = L' := by
  refine List.Perm.eq_of_pairwise (le := fun a b => decide (a ≤ b) = true) (fun a b _ _ h1 h2 => ?_) (h.imp fun {a b} h => by simp; omega) (h'.imp fun {a b} h => by simp; omega) hp
  simp at h1 h2
  omega

/-- Of: both tell the same row. -/
theorem of_same {L R : List Int} {s : Int} (hR : R.Perm (ofWho L s)) (hr : R.Pairwise (· < ·)) (he : EachRises L.reverse) : R = ofWho L.reverse s :=
  rises_oneU hr (he s) (by rw [ofWho_reverse]; exact hR.trans (List.reverse_perm _).symm)

theorem erase_reverse {L : List Int} (hn : L.Nodup) (x : Int) : (L.erase x).reverse = butM L.reverse x := by
  unfold butM
  rw [hn.erase_eq_filter, ← List.filter_reverse]
  refine List.filter_congr fun y _ => ?_
  simp [bne, Bool.beq_eq_decide_eq]

/-- What is behind Give at both. -/
theorem give_both {w : World} {B b n base R : Nat} {g : Nat → Int} {L : List Int} (hM : MarksAt w B b n g L) (he : EachRises L.reverse) (s : Int) (hn : n ≤ 800) (hl : L.length ≤ n) : ∃ (x e : Int) (g' : Nat → Int) (L' : List Int), L'.length ≤ n + 1 ∧ EachRises L'.reverse ∧ (Lit.int .u64 x).wf = true ∧
    Calls Try.prog 20 #[.pointer (some ⟨B, 0, none⟩), .int .i64 s] w (fun r w' => r = .returned (.tuple #[.int .u64 x, .int .i64 e]) ∧ MarksAt w' B b (n + 1) g' L' ∧ GrowBut w w' [B, b]) ∧
    ∀ w1, RMarksAt w1 base R g L.reverse → base ≤ w1.heap.size → Calls Try.prog 21 #[.pointer (some ⟨R, 0, none⟩), .int .i64 s] w1 fun r w' => r = .returned (.tuple #[.int .u64 x, .int .i64 e]) ∧ RMarksAt w' base R g' L'.reverse ∧ GrowBut w1 w' [R] ∧ RowNew w1 w' R := by
  by_cases hs : s < 0 ∨ 6 ≤ s
  · exact ⟨0, -2, g, L, by omega, he, by decide, (giveM_arg B s hs w).mono fun r w' ⟨hr, hw⟩ => ⟨hr, by rw [hw]; exact hM.more (by omega), by rw [hw]; exact .refl _ _⟩, fun w1 hR hb => (rgive_arg R s hs w1).mono fun r w' ⟨hr, hw⟩ => ⟨hr, by rw [hw]; exact hR, by rw [hw]; exact .refl _ _, by rw [hw]; exact RowNew.same hR (.refl _ _)⟩⟩
  obtain ⟨k, rfl⟩ : ∃ k : Nat, s = (k : Int) := ⟨s.toNat, by omega⟩
  have hk : k < 6 := by omega
  have hfew := hM.few k
  have hrev : (ofWho L.reverse (k : Int)).length = (ofWho L k).length := by rw [ofWho_reverse, List.length_reverse]
  by_cases hf : (ofWho L k).length = 4
  · exact ⟨0, -3, g, L, by omega, he, by decide, (giveM_full B b n g L k w hM hk (by omega) hf).mono fun r w' ⟨hr, hg⟩ => ⟨hr, (hM.kept hg (by simp) (by simp)).more (by omega), hg.mono (by simp)⟩, fun w1 hR hb => (rgive_full base R g L.reverse k w1 hR (by omega) (by omega) (by rw [hrev]; exact hf)).mono fun r w' ⟨hr, hg⟩ => ⟨hr, hR.kept hg (by simp) (by simp), hg.mono (by simp), RowNew.same hR hg⟩⟩
  have hgs := hM.gb k
  have hg1000 : ∀ i, g i < 1000000 := fun i => by have := hM.gb i; omega
  have hnew : ((k + 1) * 4294967296 + (g k + 1)) ∉ L := fun hx => (hM.of _ hx).ne hg1000 hgs.1 rfl
  have hwf : (Lit.int .u64 ((k + 1) * 4294967296 + (g k + 1))).wf = true := (MarkOf.new hk hgs.1).wf (fun i => by unfold upG; have := hM.gb i; have := hM.gb k; split <;> omega)
  refine ⟨(k + 1) * 4294967296 + (g k + 1), 0, upG g k, ((k + 1) * 4294967296 + (g k + 1)) :: L, by simp; omega, fun t => ?_, hwf, giveM_more B b n g L k w hM hk (by omega) hf, fun w1 hR hb => ?_⟩
  · rw [List.reverse_cons, ofWho_append]
    refine List.pairwise_append.2 ⟨he t, ?_, fun a ha c hc => ?_⟩
    · unfold ofWho
      exact List.Pairwise.sublist List.filter_sublist (List.pairwise_singleton _ _)
    · unfold ofWho at hc
      have hc1 := List.mem_filter.1 hc
      have hcx : c = (k + 1) * 4294967296 + (g k + 1) := by simpa using hc1.1
      have hct : whose c = t := by simpa using hc1.2
      unfold ofWho at ha
      have ha1 := List.mem_filter.1 ha
      have hat : whose a = t := by simpa using ha1.2
      obtain ⟨q, j, hq, hj1, hj2, rfl⟩ := hM.of a (by simpa using ha1.1)
      have := hg1000 q
      have := hg1000 k
      unfold whose at hct hat
      subst hcx
      have hqk : q = k := by omega
      subst hqk
      omega
  · have := rgive_more base R g L.reverse k w1 hR hk hb hgs.1 (hg1000 k) (by rw [hrev]; omega) (by rw [List.length_reverse]; omega) (by simpa using hnew) hwf
    refine this.mono fun r w' ⟨hr, hR', hg, hN⟩ => ⟨hr, by rw [List.reverse_cons]; exact hR', hg, hN⟩

theorem drop_both {w : World} {B b n base R : Nat} {g : Nat → Int} {L : List Int} (hM : MarksAt w B b n g L) (he : EachRises L.reverse) (x : Int) (hx : (Lit.int .u64 x).wf = true) (hl : L.length ≤ n) : (L.erase x).length ≤ n + 1 ∧ EachRises (L.erase x).reverse ∧
    Calls Try.prog 22 #[.pointer (some ⟨B, 0, none⟩), .int .u64 x] w (fun r w' => r = .returned (.bool (decide (x ∈ L))) ∧ MarksAt w' B b (n + 1) g (L.erase x) ∧ GrowBut w w' [B, b]) ∧
    ∀ w1, RMarksAt w1 base R g L.reverse → base ≤ w1.heap.size → Calls Try.prog 23 #[.pointer (some ⟨R, 0, none⟩), .int .u64 x] w1 fun r w' => r = .returned (.bool (decide (x ∈ L))) ∧ RMarksAt w' base R g (L.erase x).reverse ∧ GrowBut w1 w' [R] ∧ RowNew w1 w' R := by
  have hn := hM.nodupK
  refine ⟨by have := List.length_erase_le (a := x) (l := L); omega, ?_, (dropM_calls B b n g L x w hM hx).mono fun r w' ⟨hr, hM', hg⟩ => ⟨hr, hM'.more (by omega), hg.mono (by simp)⟩, fun w1 hR hb => (rdrop_calls base R g L.reverse x w1 hR hb).mono fun r w' ⟨hr, hR', hg, hN⟩ => ⟨by rw [hr]; simp, by rw [erase_reverse hn]; exact hR', hg, hN⟩⟩
  rw [erase_reverse hn]
  exact he.filter _

end Go.Proofs.Ytlgfopfibopcnaa
